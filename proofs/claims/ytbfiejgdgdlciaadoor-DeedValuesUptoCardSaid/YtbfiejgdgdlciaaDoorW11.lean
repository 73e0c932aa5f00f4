/-
  THE READER's value, call by call: a constructed value with arguments.
-/
import Derived.Test.YtbfiejgdgdlciaaDoorW9
import Derived.Deep.LoopGhost
import Derived.Deep.DeepCutAuto
namespace Go.Proofs.YtbfiejgdgdlciaaDoor
open Go.RowKit
open Ds (V Bs D)

/-- the cells of some values in a row -/
def RC (w : World) (S : Nat → Prop) : List V → List Value → Prop
  | [], cs => cs = []
  | x :: r, cs => ∃ c0 c1 c2 c3 cs', cs = c0 :: c1 :: c2 :: c3 :: cs' ∧ RV w S x c0 c1 c2 c3 ∧ RC w S r cs'

theorem RC.snoc {w : World} {S : Nat → Prop} {x : V} {c0 c1 c2 c3 : Value} (hx : RV w S x c0 c1 c2 c3) : ∀ {l : List V} {cs : List Value}, RC w S l cs → RC w S (l ++ [x]) (cs ++ [c0, c1, c2, c3])
  | [], cs, h => by
    simp only [RC] at h
    subst h
    exact ⟨c0, c1, c2, c3, [], rfl, hx, rfl⟩
  | y :: r, cs, h => by
    obtain ⟨d0, d1, d2, d3, cs', rfl, hy, hr⟩ := h
    exact ⟨d0, d1, d2, d3, cs' ++ [c0, c1, c2, c3], rfl, hy, RC.snoc hx hr⟩
theorem RC.keep {w w' : World} {S : Nat → Prop} (hk : ∀ k, S k → k < w.heap.size → w'.heap[k]? = w.heap[k]?) : ∀ {l : List V} {cs : List Value}, RC w S l cs → RC w' S l cs
  | [], _, h => h
  | _ :: _, _, h => by
    obtain ⟨d0, d1, d2, d3, cs', rfl, hy, hr⟩ := h
    exact ⟨d0, d1, d2, d3, cs', rfl, RV.keep hk _ hy, RC.keep hk hr⟩
theorem RC.mono {w : World} {S S' : Nat → Prop} (hk : ∀ k, k < w.heap.size → S k → S' k) : ∀ {l : List V} {cs : List Value}, RC w S l cs → RC w S' l cs
  | [], _, h => h
  | _ :: _, _, h => by
    obtain ⟨d0, d1, d2, d3, cs', rfl, hy, hr⟩ := h
    exact ⟨d0, d1, d2, d3, cs', rfl, RV.mono hk _ hy, RC.mono hk hr⟩
theorem RC.rl {w : World} {S : Nat → Prop} {g : Nat} (hg : S g) : ∀ {l : List V} {cs : List Value} (i : Nat), RC w S l cs → (∀ j u, cs[j]? = some u → w.cell? ⟨g, i * 4 + j, none⟩ = some u) → RL w S (some ⟨g, 0, none⟩) i l
  | [], _, _, _, _ => by simp only [RL]
  | x :: r, cs, i, h, hc => by
    obtain ⟨d0, d1, d2, d3, cs', rfl, hy, hr⟩ := h
    simp only [RL]
    refine ⟨⟨g, 0, d0, d1, d2, d3, rfl, hg, ?_, ?_, ?_, ?_, hy⟩, RC.rl hg (i + 1) hr (fun j u hu => ?_)⟩
    · rw [Nat.zero_add]; exact hc 0 d0 rfl
    · rw [Nat.zero_add]; exact hc 1 d1 rfl
    · rw [Nat.zero_add]; exact hc 2 d2 rfl
    · rw [Nat.zero_add]; exact hc 3 d3 rfl
    · rw [show (i + 1) * 4 + j = i * 4 + (j + 4) by omega]
      exact hc (j + 4) u (by simpa using hu)

/-- where the loop over a constructed value's arguments stands -/
def VS (w : World) (b gv : Nat) (s : Bs) (xs : List V) (rr : Bs) (bd : Bool) (u : Value) (W : World) : Prop :=
  ∃ cs : List Value, Rd W b rr bd ∧ Blk W gv 34 #[.int .i64 5, .int .i64 0, .string ⟨s.toArray⟩, u] ∧ W.ownsRow (gv + 1) 34 4 u xs.length cs ∧ RC W (fun k => gv < k ∧ some k ≠ u.ownBlock) xs cs ∧ w.grownBy W (some b) ∧ Blk W w.heap.size 34 zeroCells

theorem grown_own {a w w' : World} {b : Nat} {row : Option Nat} (h : a.grownBy w (some b)) (k : w.grownBy w' row) (hr : ∀ j, row = some j → a.heap.size ≤ j) : a.grownBy w' (some b) :=
  ⟨k.os.trans h.os, k.tape.trans h.tape, k.output.trans h.output, Nat.le_trans h.size k.size, fun i hi hn => (k.block i (Nat.lt_of_lt_of_le hi h.size) (fun e => by have := hr i e.symm; omega)).trans (h.block i hi hn)⟩

theorem VS.step {w wr w9 w10 : World} {b gv n cap g9 cg9 cap9 : Nat} {s r1 : Bs} {b1 : Bool} {xs : List V} {x1 : V} {A A9 : Option Addr} {cs : List Value} (hb : b < w.heap.size) (hwg : w.heap.size < gv) (hn : n = xs.length)
    (hgl : gv < wr.heap.size) (hown : wr.ownsRow (gv + 1) 34 4 (.slice A n cap) n cs) (hRC : RC wr (fun k => gv < k ∧ some k ≠ (Value.slice A n cap).ownBlock) xs cs) (hg : w.grownBy wr (some b)) (hBr : Blk wr w.heap.size 34 zeroCells)
    (hv9 : RV w9 (fun k => wr.heap.size ≤ k) x1 (.int .i64 x1.kind) (.int .i64 x1.num) (.string ⟨x1.text.toArray⟩) (.slice A9 x1.args.length cap9)) (hr9 : Rd w9 b r1 b1) (hg9 : wr.grownBy w9 (some b))
    (hown10 : w10.ownsRow (gv + 1) 34 4 (.slice (some ⟨g9, 0, none⟩) (n + 1) cg9) (n + 1) (cs ++ [.int .i64 x1.kind, .int .i64 x1.num, .string ⟨x1.text.toArray⟩, .slice A9 x1.args.length cap9]))
    (hg10 : (w9.alloc (.cells #[.int .i64 x1.kind, .int .i64 x1.num, .string ⟨x1.text.toArray⟩, .slice A9 x1.args.length cap9] 34)).grownBy w10 (Value.slice A n cap).ownBlock)
    (hat10 : (Value.slice A n cap).ownBlock = some g9 ∨ g9 = w9.heap.size + 1) (hBv10 : Blk w10 gv 34 #[.int .i64 5, .int .i64 0, .string ⟨s.toArray⟩, .slice A n cap]) :
    VS w b gv s (xs ++ [x1]) r1 b1 (.slice (some ⟨g9, 0, none⟩) (n + 1) cg9) (w10.setCell ⟨gv, 3, none⟩ (.slice (some ⟨g9, 0, none⟩) (n + 1) cg9)) := by
  have hol : ∀ j, (Value.slice A n cap).ownBlock = some j → gv + 1 ≤ j ∧ j < wr.heap.size := fun j e => hown.lt j e
  have hsz9 := hg9.size
  have hsz := hg.size
  generalize (Value.slice A n cap).ownBlock = ob at hRC hg10 hat10 hol
  have hga := grown_al hg9 (.cells #[.int .i64 x1.kind, .int .i64 x1.num, .string ⟨x1.text.toArray⟩, .slice A9 x1.args.length cap9] 34)
  have hnob : ∀ k, k ≤ gv → some k ≠ ob := fun k hk e => by have := (hol k e.symm).1; omega
  -- what stays from wr on
  have hkeep : ∀ k, k < wr.heap.size → k ≠ b → k ≠ gv → some k ≠ ob → (w10.setCell ⟨gv, 3, none⟩ (.slice (some ⟨g9, 0, none⟩) (n + 1) cg9)).heap[k]? = wr.heap[k]? := fun k h1 h2 h3 h4 =>
    (Below.heap_setCell _ _ _ _ h3).trans ((hg10.block k (Nat.lt_of_lt_of_le h1 hga.size) h4).trans (hga.block k h1 (fun e => h2 (by injection e))))
  have hkeep9 : ∀ k, k < w9.heap.size → k ≠ gv → some k ≠ ob → (w10.setCell ⟨gv, 3, none⟩ (.slice (some ⟨g9, 0, none⟩) (n + 1) cg9)).heap[k]? = w9.heap[k]? := fun k h1 h3 h4 =>
    (Below.heap_setCell _ _ _ _ h3).trans ((hg10.block k (by simp; omega) h4).trans (Below.heap_alloc w9 _ k h1))
  refine ⟨cs ++ [.int .i64 x1.kind, .int .i64 x1.num, .string ⟨x1.text.toArray⟩, .slice A9 x1.args.length cap9], ?_, hBv10.set_ 3 _, ?_, ?_, ?_, ?_⟩
  · exact (hkeep9 b hr9.lt (by omega) (hnob b (by omega))).trans hr9
  · have : (xs ++ [x1]).length = n + 1 := by simp [hn]
    rw [this]
    exact ownsRow_setCell_below hown10 (a := ⟨gv, 3, none⟩) (by simp) _
  · refine RC.snoc ?_ ?_
    · have h1 := RV.mono (lo' := fun k => wr.heap.size ≤ k ∧ k < w9.heap.size) (fun k hk h => ⟨h, hk⟩) _ hv9
      refine RV.mono (fun k hk h => ?_) _ (RV.keep (fun k h hk => hkeep9 k hk (by omega) (fun e => by have := (hol k e.symm).2; omega)) _ h1)
      refine ⟨by omega, fun e => ?_⟩
      have e' : k = g9 := by simpa [Value.ownBlock] using e
      rcases hat10 with h2 | h2
      · have := (hol g9 h2).2; omega
      · omega
    · have h1 := RC.mono (S' := fun k => (gv < k ∧ some k ≠ ob) ∧ k < wr.heap.size) (fun k hk h => ⟨h, hk⟩) hRC
      refine RC.mono (fun k hk h => ?_) (RC.keep (fun k h hk => hkeep k hk (by omega) (by omega) h.1.2) h1)
      refine ⟨h.1.1, fun e => ?_⟩
      have e' : k = g9 := by simpa [Value.ownBlock] using e
      rcases hat10 with h2 | h2
      · exact h.1.2 (by rw [h2, e'])
      · omega
  · exact grown_new (p := ⟨gv, 3, none⟩) (grown_own (grown_tr hg hga) hg10 (fun j e => by have := (hol j e).1; omega)) (by simp; omega) _
  · exact (hkeep w.heap.size hBr.lt (by omega) (by omega) (hnob _ (by omega))).trans hBr

theorem VS.move {w W W' : World} {b gv : Nat} {s : Bs} {xs : List V} {r r' : Bs} {bd bd' : Bool} {u : Value} (hb : b < w.heap.size) (hwg : w.heap.size < gv) (h : VS w b gv s xs r bd u W) (hr : Rd W' b r' bd') (hg : W.grownBy W' (some b)) :
    VS w b gv s xs r' bd' u W' := by
  obtain ⟨cs, _, hBv, hown, hRC, hgw, hBr⟩ := h
  exact ⟨cs, hr, hBv.grown hg (fun e => by injection e; omega), hown.kept hg (Or.inr (fun e => by have := (hown.lt b e).1; omega)), RC.keep (fun k h hk => hg.block k hk (fun e => by injection e; omega)) hRC, grown_tr hgw hg,
    hBr.grown hg (fun e => by injection e; omega)⟩

theorem own_slice {w : World} {base : Nat} {e : TypeId} {size : Nat} {v : Value} {n : Nat} {xs : List Value} (h : w.ownsRow base e size v n xs) : ∃ A cap, v = .slice A n cap ∧ n ≤ cap := by
  rcases h.2 with ⟨rfl, h0⟩ | ⟨g, cap, cur, rfl, hb, hh, hc, _⟩
  · exact ⟨none, 0, by rw [h0], by omega⟩
  · exact ⟨_, cap, rfl, hc⟩

/-- the end: the constructed value is handed back -/
theorem VS.fin {w W : World} {b gv : Nat} {s : Bs} {xs : List V} {r : Bs} {bd : Bool} {A : Option Addr} {n cap : Nat} (hb : b < w.heap.size) (hwg : w.heap.size < gv) (h : VS w b gv s xs r bd (.slice A n cap) W) :
    ∃ W' : World, W' = ((((W.setCell ⟨w.heap.size, 0, none⟩ (.int .i64 5)).setCell ⟨w.heap.size, 1, none⟩ (.int .i64 0)).setCell ⟨w.heap.size, 2, none⟩ (.string ⟨s.toArray⟩)).setCell ⟨w.heap.size, 3, none⟩ (.slice A n cap)) ∧
      W'.cell? ⟨w.heap.size, 0, none⟩ = some (.int .i64 5) ∧ W'.cell? ⟨w.heap.size, 1, none⟩ = some (.int .i64 0) ∧ W'.cell? ⟨w.heap.size, 2, none⟩ = some (.string ⟨s.toArray⟩) ∧ W'.cell? ⟨w.heap.size, 3, none⟩ = some (.slice A n cap) ∧
      VPost b w (.mk 5 0 s xs, r, bd) (.returned (.agg #[.int .i64 5, .int .i64 0, .string ⟨s.toArray⟩, .slice A n cap])) W' := by
  obtain ⟨cs, hr, hBv, hown, hRC, hgw, hBr⟩ := h
  have hP := (((Blk.set_ hBr 0 (.int .i64 5)).set_ 1 (.int .i64 0)).set_ 2 (.string ⟨s.toArray⟩)).set_ 3 (.slice A n cap)
  have hn : n = xs.length ∧ xs.length ≤ cap := by
    obtain ⟨A', cap', e, hc⟩ := own_slice hown
    injection e with _ e2 e3
    exact ⟨e2, by omega⟩
  obtain ⟨rfl, hcap⟩ := hn
  have hkeep : ∀ k, k ≠ w.heap.size → ((((W.setCell ⟨w.heap.size, 0, none⟩ (.int .i64 5)).setCell ⟨w.heap.size, 1, none⟩ (.int .i64 0)).setCell ⟨w.heap.size, 2, none⟩ (.string ⟨s.toArray⟩)).setCell ⟨w.heap.size, 3, none⟩ (.slice A xs.length cap)).heap[k]? = W.heap[k]? := fun k hk =>
    (Below.heap_setCell _ _ _ _ hk).trans ((Below.heap_setCell _ _ _ _ hk).trans ((Below.heap_setCell _ _ _ _ hk).trans (Below.heap_setCell _ _ _ _ hk)))
  have hRL : RL W (fun k => gv < k) A 0 xs := by
    cases xs with
    | nil => simp only [RL]
    | cons x l =>
      obtain ⟨g, cap', e, hg, _, _⟩ := own_form hown (by simp)
      injection e with e1 _ _
      subst e1
      refine RC.rl (by omega) 0 (RC.mono (fun k _ h => h.1) hRC) (fun j u hu => ?_)
      have := hown.cells (g := g) rfl j u hu
      rw [add0] at this
      rw [Nat.zero_mul, Nat.zero_add]
      exact this
  refine ⟨_, rfl, hP.cell 0, hP.cell 1, hP.cell 2, hP.cell 3, _, _, _, _, rfl, ?_, (hkeep b (by omega)).trans hr, ?_⟩
  · have h1 : RV W (fun k => gv < k) (.mk 5 0 s xs) (.int .i64 5) (.int .i64 0) (.string ⟨s.toArray⟩) (.slice A xs.length cap) := by
      simp only [RV]
      exact ⟨trivial, trivial, trivial, A, cap, rfl, hcap, hRL⟩
    exact RV.mono (fun k _ h => by omega) _ (RV.keep (fun k h _ => hkeep k (by omega)) _ h1)
  · exact grown_new (p := ⟨w.heap.size, 3, none⟩) (grown_new (p := ⟨w.heap.size, 2, none⟩) (grown_new (p := ⟨w.heap.size, 1, none⟩) (grown_new (p := ⟨w.heap.size, 0, none⟩) hgw (Nat.le_refl _) _) (Nat.le_refl _) _) (Nat.le_refl _) _) (Nat.le_refl _) _

theorem val_info : (Tryd.prog.info? 34).map (fun i => (i.zero, i.size, i.bytes)) = some (some (.agg #[.int .i64 0, .int .i64 0, .string ByteArray.empty, .slice none 0 0]), 4, 56) := by kernel_rfl

set_option maxRecDepth 100000 in
set_option maxHeartbeats 1000000 in
theorem value_cons (b : Nat) (c : UInt8) (q : Bs) (bad : Bool) (d : Int) (w : World) (h : Rd w b (c :: q) bad) (he : Env w) (hb8 : 8 ≤ b) (hd : d ≤ 40) (hd0 : -100 ≤ d) (s r2 : Bs) (hr2l : r2.length ≤ 16777216) (hr2p : 1 ≤ r2.length)
    (hst : (s == [116, 114, 117, 101]) = false) (hsf : (s == [102, 97, 108, 115, 101]) = false) (f : Bs → Bool → V × Bs × Bool) (hf : ∀ rr, (f rr false).2.1.length ≤ rr.length)
    (HTakA : Hid (∀ W, Rd W b (c :: q) bad → Calls Tryd.prog 37 #[.pointer (some ⟨b, 0, none⟩), .string ⟨#[40, 41]⟩] W fun e w' => e = .returned (.bool false) ∧ W = w'))
    (HTakB : Hid (∀ W, Rd W b (c :: q) bad → Calls Tryd.prog 37 #[.pointer (some ⟨b, 0, none⟩), .string ⟨#[64]⟩] W fun e w' => e = .returned (.bool false) ∧ W = w'))
    (HTakC : Hid (∀ W, Rd W b (c :: q) bad → Calls Tryd.prog 37 #[.pointer (some ⟨b, 0, none⟩), .string ⟨#[39]⟩] W fun e w' => e = .returned (.bool false) ∧ W = w'))
    (HIL : Hid (∀ W, Calls Tryd.prog 41 #[.int .u8 (c.toNat : Int)] W fun e w' => e = .returned (.bool true) ∧ W = w'))
    (HWh : Hid (∀ W, Rd W b (c :: q) bad → Calls Tryd.prog 39 #[.pointer (some ⟨b, 0, none⟩), .func (.func 42) #[] #[]] W fun e w' => e = .returned (.string ⟨s.toArray⟩) ∧ Rd w' b r2 bad ∧ W.grownBy w' (some b)))
    (HTakE : Hid (∀ W, Rd W b r2 bad → Calls Tryd.prog 37 #[.pointer (some ⟨b, 0, none⟩), .string ⟨#[40]⟩] W fun e w' => e = .returned (.bool true) ∧ Rd w' b (r2.drop 1) bad ∧ W.grownBy w' (some b)))
    (HVal : Hid (∀ W rr, Rd W b rr false → Env W → rr.length ≤ 16777216 → Calls Tryd.prog 22 #[.pointer (some ⟨b, 0, none⟩), .int .i64 (d + 1)] W (VPost b W (f rr false)))) (XS : List V) (R : Bs × Bool)
    (HX : Hid ((Ds.loopF f r2.length (r2.drop 1) bad).1 = XS ∧ (Ds.loopF f r2.length (r2.drop 1) bad).2 = R)) :
    Calls Tryd.prog 22 #[.pointer (some ⟨b, 0, none⟩), .int .i64 d] w (VPost b w (.mk 5 0 s XS, R)) := by
  have hbl := h.lt
  have k0 : w.cell? ⟨b, 0, none⟩ = some (.string ⟨(c :: q).toArray⟩) := h.cell 0
  have HH := Lib.hid h
  have HE := Lib.hid he
  have HF := Lib.hid hf
  obtain ⟨i0, hi, hz0, hz1, hz2⟩ := info_parts val_info
  have HI := Lib.hid hi
  have HZ := Lib.hid (And.intro hz0 (And.intro hz1 hz2))
  clear h he hf hi hz0 hz1 hz2
  generalize hrr : (⟨(c :: q).toArray⟩ : ByteArray) = rr at k0
  have n0 : rr.toList.isEmpty = false := by rw [← hrr]; exact ne_nil c q
  have s0 : 0 < rr.size := by rw [← hrr]; simp [ByteArray.size]
  have s1 : rr[0] = c := by subst hrr; rfl
  clear hrr
  go_enter Tryd.func22, Tryd.ntmps22
  go_wp2_with (first
    | (go_at_call_of 37 (Value.string ⟨#[40, 41]⟩); refine (HTakA.out _ (HH.out.al _)).mono ?_; rintro e w9 ⟨rfl, rfl⟩)
    | (go_at_call_of 37 (Value.string ⟨#[64]⟩); refine (HTakB.out _ (HH.out.al _)).mono ?_; rintro e w9 ⟨rfl, rfl⟩)
    | (go_at_call_of 37 (Value.string ⟨#[39]⟩); refine (HTakC.out _ (HH.out.al _)).mono ?_; rintro e w9 ⟨rfl, rfl⟩)
    | (go_at_call 41; refine (HIL.out _).mono ?_; rintro e w9 ⟨rfl, rfl⟩)
    | (go_at_call 39; refine (HWh.out _ (HH.out.al _)).mono ?_; rintro e w1 ⟨rfl, hr1, hg1⟩; refine Hid.out ?_))
  have HR1 := Lib.hid hr1
  have hgv := grown_al hg1 (.cells #[.int .i64 5, .int .i64 0, .string ⟨s.toArray⟩, .slice none 0 0] 34)
  clear hr1
  refine Lib.hid ?_
  go_wp2_with (go_at_call 37; refine (HTakE.out _ (HR1.out.al _)).mono ?_; rintro e w2 ⟨rfl, hr2, hg2⟩; refine Hid.out ?_)
  have hwgv : w.heap.size < w1.heap.size := (res_block (w := w) hbl hg1).2
  have hbgv : b < w1.heap.size := by omega
  have hgg := grown_tr hgv hg2
  have hBres := (res_block (w := w) hbl hgg).1
  have hBv : Blk w2 w1.heap.size 34 #[.int .i64 5, .int .i64 0, .string ⟨s.toArray⟩, .slice none 0 0] := (Blk.new w1 34 _).grown hg2 (fun e => by injection e; omega)
  have hgw : w.grownBy w2 (some b) := grown_tr (grown_of_below ((Below.refl _ _).alloc (Nat.le_refl _) _) (some b)) hgg
  have hVS : VS w b w1.heap.size s [] (r2.drop 1) bad (.slice none 0 0) w2 := ⟨[], hr2, hBv, World.ownsRow_nil _ _ _ _, rfl, hgw, hBres⟩
  generalize w1.heap.size = gv at hwgv hbgv hVS ⊢
  have HVS := Lib.hid hVS
  clear hVS hgw hBv hBres hgg hr2 hg2 hgv HR1 hg1
  refine Lib.hid ?_
  go_wp2_with fail
  go_loopg [] r2.length (fun k wr => ∃ (xs : List V) (rr : Bs) (bd : Bool) (u : Value), VS w b gv s xs rr bd u wr ∧ (bd = true ∨ rr.length < k) ∧ rr.length ≤ 16777216 ∧ xs.length + k ≤ 16777216 ∧ Hid (xs ++ (Ds.loopF f k rr bd).1 = XS ∧ (Ds.loopF f k rr bd).2 = R))
  case atStart => exact ⟨[], r2.drop 1, bad, .slice none 0 0, HVS.out, by simp; omega, by simp; omega, by simp; omega, Lib.hid ⟨HX.out.1, HX.out.2⟩⟩
  case round =>
    obtain ⟨xs, rr, bd, u, hvs, hfu, hrl, hxk, HEQ⟩ := hrel
    obtain ⟨cs, hR, hBv, hown, hRC, hg, hBr⟩ := hvs
    clear HVS
    obtain ⟨A, cap, rfl, hcap⟩ := own_slice hown
    have hgvl := hBv.lt
    cases bd
    · have hfu1 : rr.length < gk := by simpa using hfu
      obtain ⟨m, rfl⟩ : ∃ m, gk = m + 1 := ⟨gk - 1, by omega⟩
      have k1 : wr.cell? ⟨b, 1, none⟩ = some (.bool false) := hR.cell 1
      have z3 : wr.cell? ⟨gv, 3, none⟩ = some (.slice A xs.length cap) := hBv.cell 3
      have hEr := HE.out.grown hg hb8
      have hfl := HF.out rr
      rcases hfv : f rr false with ⟨x1, r1, b1⟩
      rw [hfv] at hfl
      have hval := fun (W : World) (hW : Rd W b rr false) (hE : Env W) => HVal.out W rr hW hE hrl
      rw [hfv] at hval
      have hval2 : ∀ (W : World), Rd W b rr false → Env W → Calls Tryd.prog 22 #[.pointer (some ⟨b, 0, none⟩), .int .i64 (d + 1)] W fun e w' => ∃ (A9 : Option Addr) (cap9 : Nat), e = .returned (.agg #[.int .i64 x1.kind, .int .i64 x1.num, .string ⟨x1.text.toArray⟩, .slice A9 x1.args.length cap9]) ∧
          RV w' (fun k => W.heap.size ≤ k) x1 (.int .i64 x1.kind) (.int .i64 x1.num) (.string ⟨x1.text.toArray⟩) (.slice A9 x1.args.length cap9) ∧ Rd w' b r1 b1 ∧ W.grownBy w' (some b) := fun W hW hE =>
        (hval W hW hE).mono fun e w' ⟨c0, c1, c2, c3, he, hv, hr, hg⟩ => by
          obtain ⟨A9, cap9, rfl, rfl, rfl, rfl, _, _⟩ := hv.form
          exact ⟨A9, cap9, he, hv, hr, hg⟩
      have hnb : (Value.slice A xs.length cap).ownBlock ≠ some b := fun e => by have := (hown.lt b e).1; omega
      have hnv : some gv ≠ some b ∧ some gv ≠ (Value.slice A xs.length cap).ownBlock := ⟨fun e => by injection e; omega, fun e => by have := (hown.lt gv e.symm).1; omega⟩
      have HNB := Lib.hid hnb
      have HNV := Lib.hid hnv
      have HV := Lib.hid hval2
      have HR := Lib.hid hR
      have HER := Lib.hid hEr
      have HBv := Lib.hid hBv
      have HRC := Lib.hid hRC
      have HBr := Lib.hid hBr
      have HFV := Lib.hid (And.intro hfv hfu1)
      clear hval hval2 hnb hnv hR hEr hBv hRC hBr hfv hfu hfu1
      have hdr : -9223372036854775808 ≤ d + 1 ∧ d + 1 ≤ 9223372036854775807 := by omega
      go_upto_region 24 with fail
      go_cut [] (fun wx => ∃ u' : Value, VS w b gv s (xs ++ [x1]) r1 b1 u' wx)
      case first =>
        have zw : IntKind.i64.wrap (d + 1) = d + 1 := IntWalk.i64_in _ hdr
        clear hdr
        go_region_law (first
          | (go_simp
             go_at_call 22
             refine (HV.out _ (by exact HR.out) (HER.out.heap (by exact rfl))).mono ?_
             rintro e w9 ⟨A9, cap9, rfl, hv9, hr9, hg9⟩
             have hg9w : wr.grownBy w9 (some b) := ⟨hg9.os, hg9.tape, hg9.output, hg9.size, hg9.block⟩
             have hown9 : (w9.alloc (.cells #[.int .i64 x1.kind, .int .i64 x1.num, .string ⟨x1.text.toArray⟩, .slice A9 x1.args.length cap9] 34)).ownsRow (gv + 1) 34 4 (.slice A xs.length cap) xs.length cs := (hown.kept hg9w (Or.inr (HNB.out))).alloc _
             have hBv9 : Blk (w9.alloc (.cells #[.int .i64 x1.kind, .int .i64 x1.num, .string ⟨x1.text.toArray⟩, .slice A9 x1.args.length cap9] 34)) gv 34 #[.int .i64 5, .int .i64 0, .string ⟨s.toArray⟩, .slice A xs.length cap] := (HBv.out.grown hg9w HNV.out.1).alloc _
             have y9 : w9.cell? ⟨gv, 3, none⟩ = some (.slice A xs.length cap) := (HBv.out.grown hg9w HNV.out.1).cell 3
             have y9a : (w9.alloc (.cells #[.int .i64 x1.kind, .int .i64 x1.num, .string ⟨x1.text.toArray⟩, .slice A9 x1.args.length cap9] 34)).cell? ⟨gv, 3, none⟩ = some (.slice A xs.length cap) := hBv9.cell 3
             have hz9 : gv + 1 ≤ w9.heap.size := by have := hg9w.size; omega)
          | (refine step_append_lies _ rfl (.tmp 83) (.tmp 88) 22 rfl (gv + 1) 34 i0 _ 4 56 Tryd.underlying22 HI.out HZ.out.1 HZ.out.2.1 HZ.out.2.2 rfl (by decide) (.slice A xs.length cap) xs.length cs rfl (by exact hown9) ⟨w9.heap.size, 0, none⟩ 1 1 [.int .i64 x1.kind, .int .i64 x1.num, .string ⟨x1.text.toArray⟩, .slice A9 x1.args.length cap9] rfl rfl (by exact World.news_of_block (cs := #[.int .i64 x1.kind, .int .i64 x1.num, .string ⟨x1.text.toArray⟩, .slice A9 x1.args.length cap9]) (t := 34) (fr := (0, 0)) (heap_alloc_new w9 _)) (by simp [Value.oneCell']) (by decide) (by simp only [maxLen]; omega) (by omega) (by simp; omega) (w9.heap.size + 1) (by simp) ?_
             intro g9 cg9 w10 hown10 hg10 hat10 hlt10
             have hBv10 := hBv9.grown hg10 HNV.out.2
             have y3 : w10.cell? ⟨gv, 3, none⟩ = some (.slice A xs.length cap) := hBv10.cell 3
             have f3 : w10.frozen? ⟨gv, 3, none⟩ = false := hBv10.frozen 3))
        all_goals
          go_wp2_with fail
          go_meet
          exact ⟨_, VS.step hbl hwgv rfl hgvl hown HRC.out hg HBr.out hv9 hr9 hg9w hown10 hg10 hat10 hBv10⟩
      case rest =>
        obtain ⟨u', hvs'⟩ := hcut
        have HVS' := Lib.hid hvs'
        obtain ⟨cs', hR', hBv', hown', _, _, hBr'⟩ := hvs'
        obtain ⟨A', cap', hu', _⟩ := own_slice hown'
        have hlen : (xs ++ [x1]).length = xs.length + 1 := by simp
        rw [hlen] at hu'
        clear hlen
        subst hu'
        have hfl2 : r1.length ≤ rr.length := hfl
        have HU : Hid (Ds.loopF f (m + 1) rr false = if Ds.hasP [41] r1 then ([x1], r1.drop 1, b1) else if Ds.hasP [44] r1 then (x1 :: (Ds.loopF f m (r1.drop 1) b1).1, (Ds.loopF f m (r1.drop 1) b1).2) else ([x1], r1, true)) := Lib.hid (by
          simp only [Ds.loopF, HFV.out.1]; simp)
        have HRL := Lib.hid hrl
        have HXK := Lib.hid (And.intro hxk HFV.out.2)
        clear hown k1 z3 hfl hrl hxk
        cases hA : Ds.hasP [41] r1 with
        | true =>
          have ht : ∀ W, Rd W b r1 b1 → Calls Tryd.prog 37 #[.pointer (some ⟨b, 0, none⟩), .string ⟨#[41]⟩] W fun e w' => e = .returned (.bool true) ∧ Rd w' b (r1.drop 1) b1 ∧ W.grownBy w' (some b) := fun W hW => take_yes b [41] r1 b1 W hW hA (by have := HRL.out; omega)
          have HT := Lib.hid ht
          have HA := Lib.hid hA
          have HR' := Lib.hid hR'
          clear ht hA hR' hBv' hown' hBr'
          go_wp2_with (go_at_call 37; refine (HT.out _ HR'.out).mono ?_; rintro e w3 ⟨rfl, hr3, hg3⟩; refine Hid.out ?_)
          have hVS3 := VS.move hbl hwgv HVS'.out hr3 hg3
          have HVS3 := Lib.hid hVS3
          obtain ⟨cs3, _, hBv3, _, _, _, hBr3⟩ := hVS3
          have v0 : w3.cell? ⟨gv, 0, none⟩ = some (.int .i64 5) := hBv3.cell 0
          have v1 : w3.cell? ⟨gv, 1, none⟩ = some (.int .i64 0) := hBv3.cell 1
          have v2 : w3.cell? ⟨gv, 2, none⟩ = some (.string ⟨s.toArray⟩) := hBv3.cell 2
          have v3 : w3.cell? ⟨gv, 3, none⟩ = some (.slice A' (xs.length + 1) cap') := hBv3.cell 3
          have z0 := hBr3.cell 0
          have z1 := hBr3.cell 1
          have z2 := hBr3.cell 2
          have z3 := hBr3.cell 3
          have y0 := hBr3.frozen 0
          have y1 := hBr3.frozen 1
          have y2 := hBr3.frozen 2
          have y3 := hBr3.frozen 3
          simp only [zeroCells, List.getElem?_toArray, List.getElem?_cons_zero, List.getElem?_cons_succ] at z0 z1 z2 z3
          clear hBv3 hBr3 hr3
          refine Lib.hid ?_
          go_wp2_with fail
          obtain ⟨W', hW', p0, p1, p2, p3, hfin⟩ := VS.fin hbl hwgv HVS3.out
          have e1 := HU.out
          rw [HA.out, if_pos rfl] at e1
          have e2 := HEQ.out
          rw [e1] at e2
          have e3 := e2.1
          have e4 := e2.2
          simp only at e3 e4
          subst e3
          subst e4
          rw [← hW']
          exact bodyPost_ret (v := .agg #[.int .i64 5, .int .i64 0, .string ⟨s.toArray⟩, .slice A' (xs.length + 1) cap']) (by simp [results, Tryd.results22, go_sem, p0, p1, p2, p3]) rfl hfin
        | false =>
          have ht : ∀ W, Rd W b r1 b1 → Calls Tryd.prog 37 #[.pointer (some ⟨b, 0, none⟩), .string ⟨#[41]⟩] W fun e w' => e = .returned (.bool false) ∧ W = w' := fun W hW => take_no b [41] r1 b1 W hW hA
          have HT := Lib.hid ht
          have HA := Lib.hid hA
          have HR' := Lib.hid hR'
          clear ht hA
          cases hB : Ds.hasP [44] r1 with
          | true =>
            have ht : ∀ W, Rd W b r1 b1 → Calls Tryd.prog 37 #[.pointer (some ⟨b, 0, none⟩), .string ⟨#[44]⟩] W fun e w' => e = .returned (.bool true) ∧ Rd w' b (r1.drop 1) b1 ∧ W.grownBy w' (some b) := fun W hW => take_yes b [44] r1 b1 W hW hB (by have := HRL.out; omega)
            have HT4 := Lib.hid ht
            have HB := Lib.hid hB
            clear ht hB hR' hBv' hown' hBr'
            go_wp2_with (first
              | (go_at_call_of 37 (Value.string ⟨#[41]⟩); refine (HT.out _ HR'.out).mono ?_; rintro e w9 ⟨rfl, rfl⟩)
              | (go_at_call_of 37 (Value.string ⟨#[44]⟩); refine (HT4.out _ HR'.out).mono ?_; rintro e w3 ⟨rfl, hr3, hg3⟩; refine Hid.out ?_))
            have k1 : w3.cell? ⟨b, 1, none⟩ = some (.bool b1) := hr3.cell 1
            have f1 : w3.frozen? ⟨b, 1, none⟩ = false := hr3.frozen 1
            have HVS4 := Lib.hid (VS.move hbl hwgv HVS'.out (hr3.flag b1) (grown_setB hg3 1 (.bool b1)))
            clear hr3
            refine Lib.hid ?_
            go_wp2_with fail
            go_roundg m
            case measure => omega
            case rel =>
              have hp1 := hasP_len HB.out
              simp only [List.length_cons, List.length_nil] at hp1
              have e1 := HU.out
              rw [if_neg (by rw [HA.out]; decide), if_pos HB.out] at e1
              have e2 := HEQ.out
              rw [e1] at e2
              have h1 := HRL.out
              have h2 := HXK.out
              exact ⟨xs ++ [x1], r1.drop 1, b1, _, HVS4.out, Or.inr (by simp; omega), by simp; omega, by simp; omega, Lib.hid ⟨by rw [List.append_assoc]; exact e2.1, e2.2⟩⟩
          | false =>
            have ht : ∀ W, Rd W b r1 b1 → Calls Tryd.prog 37 #[.pointer (some ⟨b, 0, none⟩), .string ⟨#[44]⟩] W fun e w' => e = .returned (.bool false) ∧ W = w' := fun W hW => take_no b [44] r1 b1 W hW hB
            have HT4 := Lib.hid ht
            have HB := Lib.hid hB
            have k1 : wc.cell? ⟨b, 1, none⟩ = some (.bool b1) := hR'.cell 1
            have f1 : wc.frozen? ⟨b, 1, none⟩ = false := hR'.frozen 1
            have HVS4 := Lib.hid (VS.move hbl hwgv HVS'.out (hR'.flag true) (grown_set wc b 1 (.bool true)))
            clear ht hB hR' hBv' hown' hBr'
            go_wp2_with (first
              | (go_at_call_of 37 (Value.string ⟨#[41]⟩); refine (HT.out _ HR'.out).mono ?_; rintro e w9 ⟨rfl, rfl⟩)
              | (go_at_call_of 37 (Value.string ⟨#[44]⟩); refine (HT4.out _ HR'.out).mono ?_; rintro e w9 ⟨rfl, rfl⟩))
            go_roundg m
            case measure => omega
            case rel =>
              have e1 := HU.out
              rw [if_neg (by rw [HA.out]; decide), if_neg (by rw [HB.out]; decide)] at e1
              have e2 := HEQ.out
              rw [e1] at e2
              have h1 := HRL.out
              have h2 := HXK.out
              have e5 : Ds.loopF f m r1 true = ([], r1, true) := by cases m <;> simp [Ds.loopF]
              exact ⟨xs ++ [x1], r1, true, _, HVS4.out, Or.inl rfl, by omega, by simp; omega, Lib.hid ⟨by rw [e5, List.append_nil]; exact e2.1, by rw [e5]; exact e2.2⟩⟩
    · have k1 : wr.cell? ⟨b, 1, none⟩ = some (.bool true) := hR.cell 1
      have v0 : wr.cell? ⟨gv, 0, none⟩ = some (.int .i64 5) := hBv.cell 0
      have v1 : wr.cell? ⟨gv, 1, none⟩ = some (.int .i64 0) := hBv.cell 1
      have v2 : wr.cell? ⟨gv, 2, none⟩ = some (.string ⟨s.toArray⟩) := hBv.cell 2
      have v3 : wr.cell? ⟨gv, 3, none⟩ = some (.slice A xs.length cap) := hBv.cell 3
      have z0 := hBr.cell 0
      have z1 := hBr.cell 1
      have z2 := hBr.cell 2
      have z3 := hBr.cell 3
      have y0 := hBr.frozen 0
      have y1 := hBr.frozen 1
      have y2 := hBr.frozen 2
      have y3 := hBr.frozen 3
      simp only [zeroCells, List.getElem?_toArray, List.getElem?_cons_zero, List.getElem?_cons_succ] at z0 z1 z2 z3
      have HVS := Lib.hid (show VS w b gv s xs rr true (.slice A xs.length cap) wr from ⟨cs, hR, hBv, hown, hRC, hg, hBr⟩)
      clear hR hBv hown hRC hg hBr
      go_wp2_with fail
      obtain ⟨W', hW', p0, p1, p2, p3, hfin⟩ := VS.fin hbl hwgv HVS.out
      rw [← hW']
      have e1 : (Ds.loopF f gk rr true) = ([], rr, true) := by cases gk <;> simp [Ds.loopF]
      have e2 := HEQ.out
      rw [e1] at e2
      refine bodyPost_ret (v := .agg #[.int .i64 5, .int .i64 0, .string ⟨s.toArray⟩, .slice A xs.length cap]) (by simp [results, Tryd.results22, go_sem, p0, p1, p2, p3]) rfl ?_
      have e3 : xs = XS := by simpa using e2.1
      have e4 := e2.2
      simp only at e4
      subst e3
      subst e4
      exact hfin
end Go.Proofs.YtbfiejgdgdlciaaDoor
