/-
  roadkeep1.bareValue at a constructed value.
-/
import Derived.Test.YtbfiejgdgdlciaaDoorW27
namespace Go.Proofs.YtbfiejgdgdlciaaDoor
open Go.RowKit
open Ds (V Bs D)

/-- where the loop over the arguments stands -/
def BS (w : World) (t : Bs) (xs : List V) (u : Value) (W : World) : Prop :=
  ∃ cs : List Value, Blk W (w.heap.size + 1) 34 zeroCells ∧ Blk W (w.heap.size + 2) 34 #[.int .i64 5, .int .i64 0, .string ⟨t.toArray⟩, u] ∧ W.ownsRow (w.heap.size + 3) 34 4 u xs.length cs ∧
    RC W (fun j => w.heap.size + 2 < j ∧ some j ≠ u.ownBlock) xs cs ∧ Below w.heap.size w W

theorem BS.step {w wr w9 w10 : World} {n cap g9 cg9 cap9 : Nat} {t : Bs} {xs : List V} {x1 : V} {A A9 : Option Addr} {cs : List Value} {o1 : Obj} (hn : n = xs.length)
    (hz : Blk wr (w.heap.size + 1) 34 zeroCells) (hB : Blk wr (w.heap.size + 2) 34 #[.int .i64 5, .int .i64 0, .string ⟨t.toArray⟩, .slice A n cap])
    (hown : wr.ownsRow (w.heap.size + 3) 34 4 (.slice A n cap) n cs) (hRC : RC wr (fun j => w.heap.size + 2 < j ∧ some j ≠ (Value.slice A n cap).ownBlock) xs cs) (hb : Below w.heap.size w wr)
    (hv9 : RV w9 (fun j => wr.heap.size ≤ j) x1 (.int .i64 x1.kind) (.int .i64 x1.num) (.string ⟨x1.text.toArray⟩) (.slice A9 x1.args.length cap9)) (hb9 : Below wr.heap.size wr w9)
    (hown10 : w10.ownsRow (w.heap.size + 3) 34 4 (.slice (some ⟨g9, 0, none⟩) (n + 1) cg9) (n + 1) (cs ++ [.int .i64 x1.kind, .int .i64 x1.num, .string ⟨x1.text.toArray⟩, .slice A9 x1.args.length cap9]))
    (hg10 : (w9.alloc o1).grownBy w10 (Value.slice A n cap).ownBlock) (hat10 : (Value.slice A n cap).ownBlock = some g9 ∨ w9.heap.size ≤ g9) :
    BS w t (xs ++ [x1]) (.slice (some ⟨g9, 0, none⟩) (n + 1) cg9) (w10.setCell ⟨w.heap.size + 2, 3, none⟩ (.slice (some ⟨g9, 0, none⟩) (n + 1) cg9)) := by
  have hol : ∀ j, (Value.slice A n cap).ownBlock = some j → w.heap.size + 3 ≤ j ∧ j < wr.heap.size := fun j e => hown.lt j e
  have hsz9 := hb9.size
  have hl2 := hB.lt
  have hBv10 : Blk w10 (w.heap.size + 2) 34 #[.int .i64 5, .int .i64 0, .string ⟨t.toArray⟩, .slice A n cap] := ((hB.below hb9 hB.lt).alloc o1).grown hg10 (fun e => by have := (hol _ e.symm).1; omega)
  have hBz10 : Blk w10 (w.heap.size + 1) 34 zeroCells := ((hz.below hb9 hz.lt).alloc o1).grown hg10 (fun e => by have := (hol _ e.symm).1; omega)
  have hga : wr.grownBy (w9.alloc o1) none := grown_of_below (hb9.alloc hb9.size o1) none
  generalize (Value.slice A n cap).ownBlock = ob at hRC hg10 hat10 hol
  have hkeep : ∀ j, j < wr.heap.size → j ≠ w.heap.size + 2 → some j ≠ ob → (w10.setCell ⟨w.heap.size + 2, 3, none⟩ (.slice (some ⟨g9, 0, none⟩) (n + 1) cg9)).heap[j]? = wr.heap[j]? := fun j h1 h3 h4 =>
    (Below.heap_setCell _ _ _ _ h3).trans ((hg10.block j (Nat.lt_of_lt_of_le h1 hga.size) h4).trans (hga.block j h1 (by simp)))
  have hkeep9 : ∀ j, j < w9.heap.size → j ≠ w.heap.size + 2 → some j ≠ ob → (w10.setCell ⟨w.heap.size + 2, 3, none⟩ (.slice (some ⟨g9, 0, none⟩) (n + 1) cg9)).heap[j]? = w9.heap[j]? := fun j h1 h3 h4 =>
    (Below.heap_setCell _ _ _ _ h3).trans ((hg10.block j (by simp; omega) h4).trans (Below.heap_alloc w9 _ j h1))
  refine ⟨cs ++ [.int .i64 x1.kind, .int .i64 x1.num, .string ⟨x1.text.toArray⟩, .slice A9 x1.args.length cap9], ?_, ?_, ?_, ?_, ?_⟩
  · exact hBz10.far (by simp) _
  · exact hBv10.set_ 3 _
  · have : (xs ++ [x1]).length = n + 1 := by simp [hn]
    rw [this]
    exact ownsRow_setCell_below hown10 (a := ⟨w.heap.size + 2, 3, none⟩) (by simp) _
  · refine RC.snoc ?_ ?_
    · have h1 := RV.mono (lo' := fun j => wr.heap.size ≤ j ∧ j < w9.heap.size) (fun j hk h => ⟨h, hk⟩) _ hv9
      refine RV.mono (fun j hk h => ?_) _ (RV.keep (fun j h hk => hkeep9 j hk (by omega) (fun e => by have := (hol j e.symm).2; omega)) _ h1)
      refine ⟨by omega, fun e => ?_⟩
      have e' : j = g9 := by simpa [Value.ownBlock] using e
      rcases hat10 with h2 | h2
      · have := (hol g9 h2).2; omega
      · omega
    · have h1 := RC.mono (S' := fun j => (w.heap.size + 2 < j ∧ some j ≠ ob) ∧ j < wr.heap.size) (fun j hk h => ⟨h, hk⟩) hRC
      refine RC.mono (fun j hk h => ?_) (RC.keep (fun j h hk => hkeep j hk (by omega) h.1.2) h1)
      refine ⟨h.1.1, fun e => ?_⟩
      have e' : j = g9 := by simpa [Value.ownBlock] using e
      rcases hat10 with h2 | h2
      · exact h.1.2 (by rw [h2, e'])
      · omega
  · have h1 : w.grownBy (w9.alloc o1) none := grown_of_below ((hb.trans (hb9.mono hb.size)).alloc (Nat.le_trans hb.size hb9.size) o1) none
    have h2 : Below w.heap.size w w10 := (below_of_grown h1).grown hg10 h1.size (fun j e => by have := (hol j e).1; omega)
    exact h2.setCell (p := ⟨w.heap.size + 2, 3, none⟩) (by simp) _

/-- the end -/
theorem BS.fin {w W : World} {t : Bs} {xs : List V} {A : Option Addr} {n cap : Nat} (h : BS w t xs (.slice A n cap) W) :
    ∃ W' : World, W' = ((((W.setCell ⟨w.heap.size + 1, 0, none⟩ (.int .i64 5)).setCell ⟨w.heap.size + 1, 1, none⟩ (.int .i64 0)).setCell ⟨w.heap.size + 1, 2, none⟩ (.string ⟨t.toArray⟩)).setCell ⟨w.heap.size + 1, 3, none⟩ (.slice A n cap)) ∧
      Blk W' (w.heap.size + 1) 34 #[.int .i64 5, .int .i64 0, .string ⟨t.toArray⟩, .slice A n cap] ∧ n = xs.length ∧
      RV W' (fun j => w.heap.size ≤ j) (.mk 5 0 t xs) (.int .i64 5) (.int .i64 0) (.string ⟨t.toArray⟩) (.slice A n cap) ∧ Below w.heap.size w W' := by
  obtain ⟨cs, hz, hB, hown, hRC, hb⟩ := h
  have hn : n = xs.length ∧ xs.length ≤ cap := by
    obtain ⟨A', cap', e, hc⟩ := own_slice hown
    injection e with _ e2 e3
    exact ⟨e2, by omega⟩
  obtain ⟨rfl, hcap⟩ := hn
  have hkeep : ∀ k, k ≠ w.heap.size + 1 → ((((W.setCell ⟨w.heap.size + 1, 0, none⟩ (.int .i64 5)).setCell ⟨w.heap.size + 1, 1, none⟩ (.int .i64 0)).setCell ⟨w.heap.size + 1, 2, none⟩ (.string ⟨t.toArray⟩)).setCell ⟨w.heap.size + 1, 3, none⟩ (.slice A xs.length cap)).heap[k]? = W.heap[k]? := fun k hk =>
    (Below.heap_setCell _ _ _ _ hk).trans ((Below.heap_setCell _ _ _ _ hk).trans ((Below.heap_setCell _ _ _ _ hk).trans (Below.heap_setCell _ _ _ _ hk)))
  have hRL : RL W (fun j => w.heap.size + 2 < j) A 0 xs := by
    cases xs with
    | nil => simp only [RL]
    | cons x l =>
      obtain ⟨g, cap', e, hg, _, _⟩ := own_form hown (by simp)
      injection e with e1 _ _
      subst e1
      refine RC.rl (by omega) 0 (RC.mono (fun j _ h => h.1) hRC) (fun j u hu => ?_)
      have := hown.cells (g := g) rfl j u hu
      rw [add0] at this
      rw [Nat.zero_mul, Nat.zero_add]
      exact this
  refine ⟨_, rfl, (((hz.set_ 0 _).set_ 1 _).set_ 2 _).set_ 3 _, rfl, ?_, ?_⟩
  · have h1 : RV W (fun j => w.heap.size + 2 < j) (.mk 5 0 t xs) (.int .i64 5) (.int .i64 0) (.string ⟨t.toArray⟩) (.slice A xs.length cap) := by
      simp only [RV]
      exact ⟨trivial, trivial, trivial, A, cap, rfl, hcap, hRL⟩
    exact RV.mono (fun k _ h => by omega) _ (RV.keep (fun k h _ => hkeep k (by omega)) _ h1)
  · exact (((hb.setCell (p := ⟨w.heap.size + 1, 0, none⟩) (by simp) _).setCell (p := ⟨w.heap.size + 1, 1, none⟩) (by simp) _).setCell (p := ⟨w.heap.size + 1, 2, none⟩) (by simp) _).setCell (p := ⟨w.heap.size + 1, 3, none⟩) (by simp) _

theorem bareL_map : ∀ l : List V, Ds.bareL l = l.map Ds.bareF
  | [] => rfl
  | x :: r => by simp only [Ds.bareL, List.map_cons, bareL_map r]

theorem BS.start (w : World) (c : Array Value) (t : Bs) : BS w t [] (.slice none 0 0) (((w.alloc (.cells c 34)).alloc (.cells zeroCells 34)).alloc (.cells #[.int .i64 5, .int .i64 0, .string ⟨t.toArray⟩, .slice none 0 0] 34)) := by
  refine ⟨[], ?_, ?_, World.ownsRow_nil _ _ _ _, rfl, three_allocs _ _ _ _⟩
  · have h := (Blk.new (w.alloc (.cells c 34)) 34 zeroCells).alloc (.cells #[.int .i64 5, .int .i64 0, .string ⟨t.toArray⟩, .slice none 0 0] 34)
    simpa using h
  · have h := Blk.new ((w.alloc (.cells c 34)).alloc (.cells zeroCells 34)) 34 #[.int .i64 5, .int .i64 0, .string ⟨t.toArray⟩, .slice none 0 0]
    simpa using h

set_option maxRecDepth 100000 in
set_option maxHeartbeats 1000000 in
theorem bare_cons (m : Int) (t : Bs) (l : List V) (ih : ∀ y ∈ l, BareSaid y) (hl : l.length ≤ 33554432) : BareSaid (.mk 5 m t l) := by
  intro lo A cap w hR h8
  have hfin : Ds.bareF (.mk 5 m t l) = .mk 5 0 t (Ds.bareL l) := by simp [Ds.bareF]
  rw [hfin]
  simp only [Ds.V.args, Ds.V.kind, Ds.V.num, Ds.V.text] at hR ⊢
  have HR := Lib.hid hR
  have HIH := Lib.hid ih
  obtain ⟨i0, hi, hz0, hz1, hz2⟩ := info_parts val_info
  have HI := Lib.hid hi
  have HZ := Lib.hid (And.intro hz0 (And.intro hz1 hz2))
  have n9 : (0 : Int) ≤ (l.length : Int) := Int.natCast_nonneg _
  clear ih hR hfin hi hz0 hz1 hz2
  go_enter Tryd.func12, Tryd.ntmps12
  go_wp2_with fail
  go_loopw [5, 31] (fun _ i wr => ∃ (xs : List V) (A2 : Option Addr) (c2 : Nat), i = .int .i64 xs.length ∧ xs.length ≤ l.length ∧ Hid (xs = Ds.bareL (l.take xs.length)) ∧ BS w t xs (.slice A2 xs.length c2) wr) (fun _ i _ => l.length - (intOf i).toNat)
  case atStart => exact ⟨[], none, 0, rfl, Nat.zero_le _, Lib.hid rfl, BS.start w _ t⟩
  case round =>
    obtain ⟨xs, A2, c2, rfl, hxl, HX, hBS⟩ := hrel
    have HBS := Lib.hid hBS
    obtain ⟨cs, hz, hB, hown, hRC, hb⟩ := hBS
    have n0 : (0 : Int) ≤ (xs.length : Int) := Int.natCast_nonneg _
    by_cases hlt : xs.length < l.length
    · obtain ⟨b1, o1, _, _, _, _, e1, _⟩ := (HR.out.below hb).get (List.getElem?_eq_getElem hlt)
      subst e1
      obtain ⟨A1, c1, _, k0, k1, k2, k3, hv⟩ := (HR.out.below hb).at_ (List.getElem?_eq_getElem hlt)
      have hs := HIH.out l[xs.length] (List.getElem_mem hlt)
      have hx2 : xs ++ [Ds.bareF l[xs.length]] = Ds.bareL (l.take (xs.length + 1)) := by
        rw [List.take_succ_eq_append_getElem hlt, bareL_map, List.map_append, ← bareL_map, ← HX.out]
        rfl
      generalize l[xs.length] = y at k0 k1 k2 k3 hv hs hx2
      have hargs : RL wr lo A1 0 y.args := by
        obtain ⟨A3, c3, _, _, _, e3, _, hr⟩ := hv.form
        injection e3 with e1 _ _
        rw [e1]
        exact hr
      have hcall := fun (W : World) (h1 : RL W lo A1 0 y.args) (h2 : 8 ≤ W.heap.size) => hs lo A1 c1 W h1 h2
      generalize Ds.bareF y = x1 at hcall hx2
      have hsz := hb.size
      have hbl := hB.lt
      have hz8 : 8 ≤ wr.heap.size := by omega
      have hob : some (w.heap.size + 2) ≠ (Value.slice A2 xs.length c2).ownBlock := fun e => by have := (hown.lt _ e.symm).1; omega
      have HC := Lib.hid hcall
      have HX2 := Lib.hid hx2
      have HOB := Lib.hid hob
      have HA := Lib.hid (hargs.below ((Below.refl _ _).alloc (Nat.le_refl _) (.cells #[.int .i64 y.kind, .int .i64 y.num, .string ⟨y.text.toArray⟩, .slice A1 y.args.length c1] 34)).drew)
      have HZz := Lib.hid hz
      have HB := Lib.hid hB
      have HBa := Lib.hid (hB.alloc (.cells #[.int .i64 y.kind, .int .i64 y.num, .string ⟨y.text.toArray⟩, .slice A1 y.args.length c1] 34))
      have HBy := Lib.hid (Blk.new wr 34 #[.int .i64 y.kind, .int .i64 y.num, .string ⟨y.text.toArray⟩, .slice A1 y.args.length c1])
      have HO := Lib.hid hown
      have HRC := Lib.hid hRC
      have HBe := Lib.hid hb
      clear hv hs hx2 hargs hcall hob hz hB hown hRC hb
      go_upto_region 14 with fail
      have hz8a : 8 ≤ (wr.alloc (.cells #[.int .i64 y.kind, .int .i64 y.num, .string ⟨y.text.toArray⟩, .slice A1 y.args.length c1] 34)).heap.size := by simp; omega
      have hza : wr.heap.size ≤ (wr.alloc (.cells #[.int .i64 y.kind, .int .i64 y.num, .string ⟨y.text.toArray⟩, .slice A1 y.args.length c1] 34)).heap.size := by simp
      have z0 : (wr.alloc (.cells #[.int .i64 y.kind, .int .i64 y.num, .string ⟨y.text.toArray⟩, .slice A1 y.args.length c1] 34)).cell? ⟨w.heap.size + 2, 3, none⟩ = some (.slice A2 xs.length c2) := HBa.out.cell 3
      go_region_law (first
          | (go_simp
             go_at_call 12
             refine (HC.out _ (by exact HA.out) (by exact hz8a)).mono ?_
             rintro e w9 ⟨A9, cap9, rfl, hv9, hb9⟩
             have hb9w : Below wr.heap.size wr w9 := ((Below.refl _ _).alloc (Nat.le_refl _) _).drew.trans (hb9.mono (by exact hza))
             have hv9w := RV.mono (lo' := fun j => wr.heap.size ≤ j) (fun j _ h => Nat.le_trans hza (by exact h)) _ hv9
             have hown9 : (w9.alloc (.cells #[.int .i64 x1.kind, .int .i64 x1.num, .string ⟨x1.text.toArray⟩, .slice A9 x1.args.length cap9] 34)).ownsRow (w.heap.size + 3) 34 4 (.slice A2 xs.length c2) xs.length cs := (own_below HO.out hb9w).alloc _
             have hB9 : Blk (w9.alloc (.cells #[.int .i64 x1.kind, .int .i64 x1.num, .string ⟨x1.text.toArray⟩, .slice A9 x1.args.length cap9] 34)) (w.heap.size + 2) 34 #[.int .i64 5, .int .i64 0, .string ⟨t.toArray⟩, .slice A2 xs.length c2] := (HB.out.below hb9w HB.out.lt).alloc _
             have y9 : w9.cell? ⟨w.heap.size + 2, 3, none⟩ = some (.slice A2 xs.length c2) := (HB.out.below hb9w HB.out.lt).cell 3
             have y9a : (w9.alloc (.cells #[.int .i64 x1.kind, .int .i64 x1.num, .string ⟨x1.text.toArray⟩, .slice A9 x1.args.length cap9] 34)).cell? ⟨w.heap.size + 2, 3, none⟩ = some (.slice A2 xs.length c2) := hB9.cell 3
             have hz9 : w.heap.size + 3 ≤ w9.heap.size := by have := hb9w.size; omega)
          | (refine step_append_lies _ rfl (.tmp 36) (.tmp 39) 22 rfl (w.heap.size + 3) 34 i0 _ 4 56 Tryd.underlying22 HI.out HZ.out.1 HZ.out.2.1 HZ.out.2.2 rfl (by decide) (.slice A2 xs.length c2) xs.length cs rfl (by exact hown9) ⟨w9.heap.size, 0, none⟩ 1 1 [.int .i64 x1.kind, .int .i64 x1.num, .string ⟨x1.text.toArray⟩, .slice A9 x1.args.length cap9] rfl rfl (by exact World.news_of_block (cs := #[.int .i64 x1.kind, .int .i64 x1.num, .string ⟨x1.text.toArray⟩, .slice A9 x1.args.length cap9]) (t := 34) (fr := (0, 0)) (heap_alloc_new w9 _)) (by simp [Value.oneCell']) (by decide) (by simp only [maxLen]; omega) (by omega) (by simp; omega) (w9.heap.size + 1) (by simp) ?_
             intro g9 cg9 w10 hown10 hg10 hat10 hlt10
             have hB10 := hB9.grown hg10 HOB.out
             have y3 : w10.cell? ⟨w.heap.size + 2, 3, none⟩ = some (.slice A2 xs.length c2) := hB10.cell 3
             have f3 : w10.frozen? ⟨w.heap.size + 2, 3, none⟩ = false := hB10.frozen 3))
      all_goals
        have hstep := BS.step rfl HZz.out HB.out HO.out HRC.out HBe.out hv9w hb9w hown10 hg10 (by rcases hat10 with h | h; exact Or.inl h; exact Or.inr (by omega))
        have HST := Lib.hid hstep
        clear hstep k0 k1 k2 k3
        go_wp2_with fail
        go_roundw
        case rel =>
          have e9 : (xs ++ [x1]).length = xs.length + 1 := by simp
          refine ⟨xs ++ [x1], some ⟨g9, 0, none⟩, cg9, ?_, ?_, ?_, ?_⟩
          · rw [e9]; go_num
          · rw [e9]; omega
          · rw [e9]; exact HX2
          · rw [e9]; exact HST.out
        case measure => simp [intOf]; omega
    · have hxe : xs = Ds.bareL l := by
        rw [HX.out, List.take_of_length_le (by omega)]
      have hnl : ¬ (xs.length : Int) < (l.length : Int) := by omega
      have hzl := hz.lt
      have z0 := hz.cell 0
      have z1 := hz.cell 1
      have z2 := hz.cell 2
      have z3 := hz.cell 3
      have y0 := hz.frozen 0
      have y1 := hz.frozen 1
      have y2 := hz.frozen 2
      have y3 := hz.frozen 3
      have hBl := hB.lt
      have q0 := hB.cell 0
      have q1 := hB.cell 1
      have q2 := hB.cell 2
      have q3 := hB.cell 3
      simp only [zeroCells, List.getElem?_toArray, List.getElem?_cons_zero, List.getElem?_cons_succ] at z0 z1 z2 z3 q0 q1 q2 q3
      have HXE := Lib.hid hxe
      clear hz hB hown hRC hb hlt hxl hxe
      go_wp2_with fail
      obtain ⟨W', hW', hB', _, hv', hb'⟩ := BS.fin HBS.out
      rw [← hW']
      have p0 := hB'.cell 0
      have p1 := hB'.cell 1
      have p2 := hB'.cell 2
      have p3 := hB'.cell 3
      rw [← HXE.out]
      exact bodyPost_ret (v := .agg #[.int .i64 5, .int .i64 0, .string ⟨t.toArray⟩, .slice A2 xs.length c2]) (by simp [results, Tryd.results12, go_sem, p0, p1, p2, p3]) rfl ⟨A2, c2, rfl, hv', hb'⟩

theorem nodes_in : ∀ {l : List V} {y : V}, y ∈ l → Ds.nodes y ≤ Ds.nodesL l
  | x :: r, y, h => by
    rcases List.mem_cons.1 h with rfl | h
    · simp only [Ds.nodesL]; omega
    · have := nodes_in h
      simp only [Ds.nodesL]; omega
theorem nodes_count : ∀ l : List V, l.length ≤ Ds.nodesL l
  | [] => Nat.le_refl _
  | x :: r => by
    have := nodes_count r
    have h1 : 1 ≤ Ds.nodes x := by cases x; simp only [Ds.nodes]; omega
    simp only [List.length_cons, Ds.nodesL]; omega

theorem bare_calls : ∀ (n : Nat) (x : V), Ds.nodes x ≤ n → n ≤ 33554432 → BareSaid x
  | 0, .mk k m t l, h, _ => by simp only [Ds.nodes] at h; omega
  | n + 1, .mk k m t l, h, hn => by
    simp only [Ds.nodes] at h
    by_cases h5 : k = 5
    · subst h5
      refine bare_cons m t l (fun y hy => bare_calls n y ?_ (by omega)) ?_
      · have := nodes_in hy
        omega
      · have := nodes_count l
        omega
    · exact bare_leaf k m t l h5
end Go.Proofs.YtbfiejgdgdlciaaDoor
