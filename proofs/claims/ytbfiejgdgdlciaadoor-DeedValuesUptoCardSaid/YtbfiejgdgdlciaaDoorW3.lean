/-
  A VALUE AS TEXT: deed.text and deed.made call by call: what they return is what the plain functions say.
-/
import Derived.Test.YtbfiejgdgdlciaaDoorW1
import Derived.Test.YtbfiejgdgdlciaaDoorW2
import Derived.Test.YtbfiejgdgdlciaaDoorLaws1
namespace Go.Proofs.YtbfiejgdgdlciaaDoor
open Go.RowKit
open Ds (V Bs)

/-- what deed.text does at so many levels -/
def TextSaid (n : Nat) : Prop := ∀ (x : V) (lo : Nat → Prop) (c0 c1 c2 c3 : Value) (d : Int) (w : World), RV w lo x c0 c1 c2 c3 → Ds.wfV x → Ds.nodes x ≤ 33554432 → Env w → d = 41 - (n : Int) → n ≤ 40 →
  Calls Tryd.prog 21 #[.agg #[c0, c1, c2, c3], .int .i64 d] w fun e w' => e = .returned (.tuple #[.string ⟨(Ds.textF n x).1.toArray⟩, .int .i64 (Ds.textF n x).2]) ∧ Below w.heap.size w w'

theorem text_calls0 : TextSaid 0 := by
  intro x lo c0 c1 c2 c3 d w hr hx hn he hd hn40
  have hd' : 40 < d := by omega
  clear hd hr
  go_enter Tryd.func21, Tryd.ntmps21
  go_wp2_with fail
  go_ret2
  exact ⟨by simp [Ds.textF], (Below.refl _ _).alloc (Nat.le_refl _) _⟩

theorem str_info : (Tryd.prog.info? 9).map (fun i => (i.zero, i.size, i.bytes)) = some (some (.string ByteArray.empty), 1, 16) := by kernel_rfl

theorem argsF_ok (f : V → Bs × Int) : ∀ (l : List V), (∀ y ∈ l, (f y).2 = 0) → Ds.argsF f l = (l.map fun y => (f y).1, 0)
  | [], _ => rfl
  | x :: r, h => by
    have hx := h x (List.mem_cons_self)
    have hr := argsF_ok f r (fun y hy => h y (List.mem_cons_of_mem _ hy))
    simp only [Ds.argsF, hx, hr, if_true, List.map_cons]
theorem argsF_err (f : V → Bs × Int) : ∀ (l : List V) (j : Nat) (hj : j < l.length), (∀ y ∈ l.take j, (f y).2 = 0) → (f l[j]).2 ≠ 0 → Ds.argsF f l = ([], (f l[j]).2)
  | x :: r, 0, _, _, h => by
    simp only [List.getElem_cons_zero] at h ⊢
    simp only [Ds.argsF, h, if_false]
  | x :: r, j + 1, hj, ha, h => by
    have hx := ha x (by simp)
    have hr := argsF_err f r j (by simpa using hj) (fun y hy => ha y (by simp [hy])) (by simpa using h)
    simp only [List.getElem_cons_succ] at h ⊢
    simp only [Ds.argsF, hx, hr, if_true, h, if_false]

def txts (n : Nat) (l : List V) : List Value := l.map fun y => .string ⟨(Ds.textF n y).1.toArray⟩


theorem tup_ret {a b : Bs} {m n : Int} (h : a = b) (h' : m = n) : Ending.returned (.tuple #[.string ⟨a.toArray⟩, .int .i64 m]) = .returned (.tuple #[.string ⟨b.toArray⟩, .int .i64 n]) := by rw [h, h']

set_option maxRecDepth 100000 in
set_option maxHeartbeats 400000 in
theorem made_nil (n : Nat) (k num : Int) (t : Bs) (A : Option Addr) (cap : Nat) (d : Int) (w : World) :
    Calls Tryd.prog 36 #[.agg #[.int .i64 k, .int .i64 num, .string ⟨t.toArray⟩, .slice A 0 cap], .int .i64 d] w fun e w' => e = .returned (.tuple #[.string ⟨(Ds.madeF (Ds.textF n) t []).1.toArray⟩, .int .i64 (Ds.madeF (Ds.textF n) t []).2]) ∧ Below w.heap.size w w' := by
  go_enter Tryd.func36, Tryd.ntmps36
  go_wp2_with fail
  go_loop [6, 14] (fun a i => a = .slice none 0 0 ∧ i = .int .i64 0) (fun _ _ => 0)
  case atStart => exact ⟨rfl, rfl⟩
  case round =>
    obtain ⟨rfl, rfl⟩ := hrel
    go_wp2_with fail
    go_ret2
    exact ⟨tup_ret rfl rfl, (Below.refl _ _).alloc (Nat.le_refl _) _⟩

set_option maxRecDepth 100000 in
set_option maxHeartbeats 400000 in
theorem made_cons (n : Nat) (ih : TextSaid n) (k num : Int) (t : Bs) (x : V) (r : List V) (l : List V) (hl0 : l = x :: r) (lo : Nat → Prop) (b off cap : Nat) (d : Int) (w : World) (hR : RL w lo (some ⟨b, off, none⟩) 0 l) (hx : Ds.wfL l)
    (hn : Ds.nodesL l ≤ 33554432) (he : Env w) (hd : d = 40 - (n : Int)) (hn40 : n ≤ 39) (hl : l.length ≤ 6) (ht : t.length ≤ 16) :
    Calls Tryd.prog 36 #[.agg #[.int .i64 k, .int .i64 num, .string ⟨t.toArray⟩, .slice (some ⟨b, off, none⟩) l.length cap], .int .i64 d] w fun e w' => e = .returned (.tuple #[.string ⟨(Ds.madeF (Ds.textF n) t l).1.toArray⟩, .int .i64 (Ds.madeF (Ds.textF n) t l).2]) ∧ Below w.heap.size w w' := by
  have hd1 : 1 ≤ d := by omega
  have hd2 : d ≤ 40 := by omega
  obtain ⟨i0, hi, hz0, hz1, hz2⟩ := info_parts str_info
  have HD := Lib.hid hd
  have IH := Lib.hid ih
  have HX := Lib.hid hx
  have HN := Lib.hid hn
  have HR := Lib.hid hR
  have HI := Lib.hid hi
  have HL := Lib.hid hl0
  have HE := Lib.hid he
  have HZ := Lib.hid (And.intro hz0 (And.intro hz1 hz2))
  clear hd ih hx hR hi hz0 hz1 hz2 hn hl0 he
  go_enter Tryd.func36, Tryd.ntmps36
  go_wp2_with fail
  go_loopw [6, 8, 9, 10, 14] (fun a _ _ _ i wr => ∃ j : Nat, j ≤ l.length ∧ i = .int .i64 j ∧ wr.ownsRow (w.heap.size + 1) 9 1 a j (txts n (l.take j)) ∧ Below (w.heap.size + 1) (w.alloc (.cells #[.int .i64 k, .int .i64 num, .string ⟨t.toArray⟩, .slice (some ⟨b, off, none⟩) l.length cap] 34)) wr ∧ Hid (∀ y ∈ l.take j, (Ds.textF n y).2 = 0)) (fun _ _ _ _ i _ => l.length - (intOf i).toNat)
  case atStart => exact ⟨0, Nat.zero_le _, rfl, World.ownsRow_nil _ _ _ _, Below.refl _ _, Lib.hid (by simp)⟩
  case round =>
    obtain ⟨j, hj, rfl, hown, hb, hall⟩ := hrel
    have hbw : Below w.heap.size w wr := ((Below.refl _ _).alloc (Nat.le_refl _) _).trans (hb.mono (by omega))
    have hsz : w.heap.size + 1 ≤ wr.heap.size := by have := hb.size; simpa using this
    by_cases hlt : j < l.length
    · obtain ⟨A', cap', _, h0, h1, h2, h3, hv⟩ := (RL.below HR.out hbw).at_ (List.getElem?_eq_getElem hlt)
      have hwf : Ds.wfV l[j] := wf_mem HX.out (List.getElem_mem hlt)
      have hnd : Ds.nodes l[j] ≤ 33554432 := Nat.le_trans (nodes_mem (List.getElem_mem hlt)) HN.out
      have hds : d + 1 = 41 - (n : Int) := by have := HD.out; omega
      have hc : ∀ W : World, RV W lo l[j] (.int .i64 l[j].kind) (.int .i64 l[j].num) (.string ⟨l[j].text.toArray⟩) (.slice A' l[j].args.length cap') → Env W → Calls Tryd.prog 21 #[.agg #[.int .i64 l[j].kind, .int .i64 l[j].num, .string ⟨l[j].text.toArray⟩, .slice A' l[j].args.length cap'], .int .i64 (d + 1)] W fun e w' => e = .returned (.tuple #[.string ⟨(Ds.textF n l[j]).1.toArray⟩, .int .i64 (Ds.textF n l[j]).2]) ∧ Below W.heap.size W w' :=
        fun W hrv henv => IH.out l[j] lo _ _ _ _ (d + 1) W hrv hwf hnd henv hds (by omega)
      have HV := Lib.hid hv
      have htk : txts n (l.take (j + 1)) = txts n (l.take j) ++ [.string ⟨(Ds.textF n l[j]).1.toArray⟩] := by
        unfold txts
        rw [List.take_succ_eq_append_getElem hlt, List.map_append]
        rfl
      have hal : (Ds.textF n l[j]).2 = 0 → ∀ y ∈ l.take (j + 1), (Ds.textF n y).2 = 0 := by
        intro h0 y hy
        rw [List.take_succ_eq_append_getElem hlt, List.mem_append] at hy
        rcases hy with hy | hy
        · exact hall.out y hy
        · rw [List.mem_singleton.1 hy]; exact h0
      have her : (Ds.textF n l[j]).2 ≠ 0 → Ds.argsF (Ds.textF n) l = ([], (Ds.textF n l[j]).2) := fun h => argsF_err _ l j hlt hall.out h
      clear hv hds hwf hnd
      generalize Ds.textF n l[j] = p at hc htk hal her
      obtain ⟨sx, ex⟩ := p
      simp only at hc htk hal her
      have HC := Lib.hid hc
      have HTK := Lib.hid htk
      have HAL := Lib.hid hal
      have HER := Lib.hid her
      clear hc htk hal her
      have hz : w.heap.size ≤ wr.heap.size := by omega
      by_cases hex : ex = 0
      · subst hex
        go_wp2_with fail
        refine (HC.out _ (HV.out.below ((Below.refl _ _).alloc (Nat.le_refl _) _)) (HE.out.below (hbw.alloc hz _) HE.out.sz)).mono ?_
        rintro e w1 ⟨rfl, hb1⟩
        have hown1 : (w1.alloc (.cells #[.string ⟨sx.toArray⟩] 9)).ownsRow (w.heap.size + 1) 9 1 u6 j (txts n (l.take j)) := (own_below (hown.alloc _) hb1).alloc _
        have hb2 : Below (w.heap.size + 1) (w.alloc (.cells #[.int .i64 k, .int .i64 num, .string ⟨t.toArray⟩, .slice (some ⟨b, off, none⟩) l.length cap] 34)) (w1.alloc (.cells #[.string ⟨sx.toArray⟩] 9)) :=
          ((hb.alloc hsz _).trans (hb1.mono (by simp; omega))).alloc (by have := hb1.size; simp at this; omega) _
        have hz1 : w.heap.size + 1 ≤ w1.heap.size := by have := hb1.size; simp at this; omega
        go_wp2_with (at_builtin; refine wpList_append_own _ rfl (.tmp 28) (.tmp 30) 41 rfl (w.heap.size + 1) 9 i0 _ 1 16 Tryd.underlying41 HI.out HZ.out.1 HZ.out.2.1 HZ.out.2.2 rfl (by decide) u6 j _ rfl hown1 ⟨w1.heap.size, 0, none⟩ 1 1 [.string ⟨sx.toArray⟩] rfl rfl (cell_one_new _ _ _) (by simp [Value.oneCell']) (by simp only [maxLen]; omega) (by omega) (by simp; omega) ?_; intro v2 w2 hown2 hg2 _)
        have hb3 := below_app hb2 hown1 hg2 (by simp; omega)
        rw [← HTK.out] at hown2
        go_roundw
        case rel => exact ⟨j + 1, by omega, by go_num, hown2, hb3, Lib.hid (HAL.out trivial)⟩
        case measure => simp [intOf]; omega
      · have hfin : Ds.madeF (Ds.textF n) t l = ([], ex) := by
          unfold Ds.madeF
          rw [HER.out hex]
          simp [hex]
        have HF := Lib.hid hfin
        clear hfin
        have hne : (ex != 0) = true := by rw [bne_iff_ne]; exact hex
        go_wp2_with fail
        refine (HC.out _ (HV.out.below ((Below.refl _ _).alloc (Nat.le_refl _) _)) (HE.out.below (hbw.alloc hz _) HE.out.sz)).mono ?_
        rintro e w1 ⟨rfl, hb1⟩
        have hb2 : Below w.heap.size w w1 := (hbw.alloc hz _).trans (hb1.mono (by simp; omega))
        go_wp2_with fail
        go_ret2
        exact ⟨(tup_ret (congrArg Prod.fst HF.out) (congrArg Prod.snd HF.out)).symm, hb2⟩
    · have hjl : j = l.length := by omega
      subst hjl
      have hlen : 0 < l.length := by rw [HL.out]; simp
      rw [List.take_length] at hown hall
      obtain ⟨g, cg, hv, hg1, hg2, hg3⟩ := own_form hown hlen
      subst hv
      have hfin : Ds.madeF (Ds.textF n) t l = (t ++ [40] ++ Lib.join (l.map fun y => (Ds.textF n y).1) [44] ++ [41], 0) := by
        unfold Ds.madeF
        rw [argsF_ok _ l hall.out]
        simp [HL.out]
      have hjl : (Lib.join (l.map fun y => (Ds.textF n y).1) [44]).length ≤ 140737488355328 := by
        have h1 := Ds.argsF_len (Ds.textF n) l (fun y hy => Ds.textF_len n y (Ds.wf_memL HX.out hy))
        rw [argsF_ok _ l hall.out] at h1
        have h2 := Ds.join_len [44] (l.map fun y => (Ds.textF n y).1)
        have h3 := HN.out
        simp only [List.length_cons, List.length_nil, Nat.zero_add] at h1 h2
        omega
      have hcl : ∀ (i : Nat) x, (l.map fun y => (Ds.textF n y).1)[i]? = some x → wr.cell? ⟨g, i, none⟩ = some (.string ⟨x.toArray⟩) := by
        intro i x hx
        have h1 := hown.cells (g := g) rfl i (.string ⟨x.toArray⟩) (by
          unfold txts
          rw [List.getElem?_map] at hx ⊢
          cases hli : l[i]? with
          | none => rw [hli] at hx; cases hx
          | some y => rw [hli] at hx; injection hx with hx; subst hx; rfl)
        rw [add0] at h1
        exact h1
      have hxl : (l.map fun y => (Ds.textF n y).1).length = l.length := List.length_map _
      generalize l.map (fun y => (Ds.textF n y).1) = xs at hfin hjl hcl hxl
      have hjoin : ∀ W : World, W.heap = wr.heap → Calls Tryd.prog 18 #[.slice (some ⟨g, 0, none⟩) l.length cg, .string ⟨#[44]⟩] W fun e w' => e = .returned (.string ⟨(Lib.join xs [44]).toArray⟩) ∧ Below W.heap.size W w' := by
        intro W hW
        have h1 := join_calls g cg xs ⟨#[44]⟩ W (fun i x hx => (World.cell?_of_block (w := wr) (a := ⟨g, i, none⟩) (by rw [hW])).trans (hcl i x hx)) (by rw [hW]; exact hg2) (by omega) (by omega) hjl
        rw [hxl] at h1
        exact h1
      have hbox : wr.cell? ⟨w.heap.size, 2, none⟩ = some (.string ⟨t.toArray⟩) := by
        rw [hb.cell (p := ⟨w.heap.size, 2, none⟩) (by simp)]
        simp
      generalize Lib.join xs [44] = J at hfin hjl hjoin
      obtain ⟨y1, hy1, hs1, ha1⟩ := cat Tryd.prog ⟨t.toArray⟩ ⟨#[40]⟩ (by simp [ByteArray.size]; omega)
      obtain ⟨y2, hy2, hs2, ha2⟩ := cat Tryd.prog y1 ⟨J.toArray⟩ (by rw [hs1]; simp [ByteArray.size]; omega)
      obtain ⟨y3, hy3, _, ha3⟩ := cat Tryd.prog y2 ⟨#[41]⟩ (by rw [hs2, hs1]; simp [ByteArray.size]; omega)
      have HY := Lib.hid (And.intro hy1 (And.intro hy2 hy3))
      have HF := Lib.hid hfin
      have HJ := Lib.hid hjoin
      clear hfin hcl hjoin hy1 hy2 hy3 hjl hxl hs1 hs2
      go_wp2_with fail
      go_region_held3 (fun W => W.cell? ⟨w.heap.size, 2, none⟩ = some (.string ⟨t.toArray⟩)) (first | go_keep | exact (hb9.cell (p := ⟨w.heap.size, 2, none⟩) (by simp; omega)).trans hbox)
        (first | (go_at_call 18; refine (HJ.out _ (by exact rfl)).mono ?_; rintro e w9 ⟨rfl, hb9⟩))
      go_wp2_with fail
      go_ret2
      have e3 : y3 = ⟨(t ++ [40] ++ J ++ [41]).toArray⟩ := of_data (by rw [HY.out.2.2, HY.out.2.1, HY.out.1])
      exact ⟨by rw [HF.out, ← e3]; rfl, hbw.drew.trans (hb9.mono (by simp; omega))⟩

theorem made_calls (n : Nat) (ih : TextSaid n) (k num : Int) (t : Bs) (l : List V) (lo : Nat → Prop) (c0 c1 c2 c3 : Value) (d : Int) (w : World) (hr : RV w lo (.mk k num t l) c0 c1 c2 c3) (hx : Ds.wfL l)
    (hn : Ds.nodesL l ≤ 33554432) (he : Env w) (hd : d = 40 - (n : Int)) (hn40 : n ≤ 39) (hl : l.length ≤ 6) (ht : t.length ≤ 16) :
    Calls Tryd.prog 36 #[.agg #[c0, c1, c2, c3], .int .i64 d] w fun e w' => e = .returned (.tuple #[.string ⟨(Ds.madeF (Ds.textF n) t l).1.toArray⟩, .int .i64 (Ds.madeF (Ds.textF n) t l).2]) ∧ Below w.heap.size w w' := by
  simp only [RV] at hr
  obtain ⟨rfl, rfl, rfl, A, cap, rfl, hcap, hR⟩ := hr
  cases l with
  | nil => exact made_nil n k num t A cap d w
  | cons x r =>
    obtain ⟨b, off, rfl⟩ := hR.addr
    exact made_cons n ih k num t x r (x :: r) rfl lo b off cap d w hR hx hn he hd hn40 hl ht

theorem text_unit (n : Nat) (num : Int) (t : Bs) (l : List V) (c3 : Value) (d : Int) (w : World) (hd : d ≤ 40) :
    Calls Tryd.prog 21 #[.agg #[.int .i64 1, .int .i64 num, .string ⟨t.toArray⟩, c3], .int .i64 d] w fun e w' => e = .returned (.tuple #[.string ⟨(Ds.textF (n + 1) (.mk 1 num t l)).1.toArray⟩, .int .i64 (Ds.textF (n + 1) (.mk 1 num t l)).2]) ∧ Below w.heap.size w w' := by
  go_enter Tryd.func21, Tryd.ntmps21
  go_wp2_with fail
  go_ret2
  exact ⟨tup_ret rfl rfl, (Below.refl _ _).alloc (Nat.le_refl _) _⟩

set_option maxHeartbeats 400000 in
theorem text_int (n : Nat) (num : Int) (t : Bs) (l : List V) (c3 : Value) (d : Int) (w : World) (hd : d ≤ 40) (h0 : -9223372036854775808 ≤ num) (h1 : num ≤ 9223372036854775807) (he : Env w) :
    Calls Tryd.prog 21 #[.agg #[.int .i64 2, .int .i64 num, .string ⟨t.toArray⟩, c3], .int .i64 d] w fun e w' => e = .returned (.tuple #[.string ⟨(Ds.textF (n + 1) (.mk 2 num t l)).1.toArray⟩, .int .i64 (Ds.textF (n + 1) (.mk 2 num t l)).2]) ∧ Below w.heap.size w w' := by
  have HC := Lib.hid fun W => itoa_calls num h0 h1 W
  have HE := Lib.hid he
  clear h0 h1 he
  go_enter Tryd.func21, Tryd.ntmps21
  go_wp2_with (go_at_call 16; refine (HC.out _ (HE.out.alloc _)).mono ?_; rintro e w1 ⟨rfl, hb1⟩)
  go_ret2
  exact ⟨tup_ret rfl rfl, ((Below.refl _ _).alloc (Nat.le_refl _) _).trans (hb1.mono (by simp))⟩

set_option maxHeartbeats 400000 in
theorem text_ref (n : Nat) (num : Int) (t : Bs) (l : List V) (c3 : Value) (d : Int) (w : World) (hd : d ≤ 40) (h0 : -9223372036854775808 ≤ num) (h1 : num ≤ 9223372036854775807) (he : Env w) :
    Calls Tryd.prog 21 #[.agg #[.int .i64 6, .int .i64 num, .string ⟨t.toArray⟩, c3], .int .i64 d] w fun e w' => e = .returned (.tuple #[.string ⟨(Ds.textF (n + 1) (.mk 6 num t l)).1.toArray⟩, .int .i64 (Ds.textF (n + 1) (.mk 6 num t l)).2]) ∧ Below w.heap.size w w' := by
  have HC := Lib.hid fun W => itoa_calls num h0 h1 W
  have hi := Lib.itoa_length_le num h0 h1
  have HE := Lib.hid he
  clear h0 h1 he
  have hfin : (Ds.textF (n + 1) (.mk 6 num t l)) = (64 :: Lib.itoa num, 0) := by simp [Ds.textF]
  generalize Lib.itoa num = s at hi hfin HC
  obtain ⟨y, hy, _, ha⟩ := cat Tryd.prog ⟨#[64]⟩ ⟨s.toArray⟩ (by simp [ByteArray.size]; omega)
  have HF := Lib.hid hfin
  have HY := Lib.hid hy
  clear hfin hy
  go_enter Tryd.func21, Tryd.ntmps21
  go_wp2_with (go_at_call 16; refine (HC.out _ (HE.out.alloc _)).mono ?_; rintro e w1 ⟨rfl, hb1⟩)
  go_ret2
  have e1 : y = ⟨(64 :: s).toArray⟩ := of_data HY.out
  exact ⟨by rw [HF.out, ← e1]; rfl, ((Below.refl _ _).alloc (Nat.le_refl _) _).trans (hb1.mono (by simp))⟩

set_option maxHeartbeats 400000 in
theorem text_bool (n : Nat) (num : Int) (t : Bs) (l : List V) (c3 : Value) (d : Int) (w : World) (hd : d ≤ 40) :
    Calls Tryd.prog 21 #[.agg #[.int .i64 3, .int .i64 num, .string ⟨t.toArray⟩, c3], .int .i64 d] w fun e w' => e = .returned (.tuple #[.string ⟨(Ds.textF (n + 1) (.mk 3 num t l)).1.toArray⟩, .int .i64 (Ds.textF (n + 1) (.mk 3 num t l)).2]) ∧ Below w.heap.size w w' := by
  by_cases h0 : num = 0
  · subst h0
    go_enter Tryd.func21, Tryd.ntmps21
    go_wp2_with (go_at_call 33; refine (formatBool_calls _ _).mono ?_; rintro e w' ⟨rfl, rfl⟩)
    go_ret2
    exact ⟨tup_ret rfl rfl, (Below.refl _ _).alloc (Nat.le_refl _) _⟩
  by_cases h1 : num = 1
  · subst h1
    go_enter Tryd.func21, Tryd.ntmps21
    go_wp2_with (go_at_call 33; refine (formatBool_calls _ _).mono ?_; rintro e w' ⟨rfl, rfl⟩)
    go_ret2
    exact ⟨tup_ret rfl rfl, (Below.refl _ _).alloc (Nat.le_refl _) _⟩
  · have g0 : (num == 0) = false := by simpa using h0
    have g1 : (num == 1) = false := by simpa using h1
    have hfin : (Ds.textF (n + 1) (.mk 3 num t l)) = ([], 3) := by simp [Ds.textF, h0, h1]
    have HF := Lib.hid hfin
    clear hfin h0 h1
    go_enter Tryd.func21, Tryd.ntmps21
    go_wp2_with fail
    go_ret2
    exact ⟨by rw [HF.out]; rfl, (Below.refl _ _).alloc (Nat.le_refl _) _⟩

set_option maxHeartbeats 400000 in
theorem text_text (n : Nat) (num : Int) (t : Bs) (l : List V) (c3 : Value) (d : Int) (w : World) (hd : d ≤ 40) (ht : t.length ≤ 9223372036854775807) :
    Calls Tryd.prog 21 #[.agg #[.int .i64 4, .int .i64 num, .string ⟨t.toArray⟩, c3], .int .i64 d] w fun e w' => e = .returned (.tuple #[.string ⟨(Ds.textF (n + 1) (.mk 4 num t l)).1.toArray⟩, .int .i64 (Ds.textF (n + 1) (.mk 4 num t l)).2]) ∧ Below w.heap.size w w' := by
  have hc := fun W => quotable_calls ⟨t.toArray⟩ (by simp only [ByteArray.size, List.size_toArray, maxLen]; omega) W
  have hq : Ds.quotB t = true → t.length ≤ 64 := Ds.quotB_len
  have hfin : (Ds.textF (n + 1) (.mk 4 num t l)) = if Ds.quotB t then (39 :: (t ++ [39]), 0) else ([], 3) := by simp [Ds.textF]
  simp only at hc
  generalize Ds.quotB t = q at hc hq hfin
  have HC := Lib.hid hc
  have HF := Lib.hid hfin
  clear hc hfin ht
  cases q
  · clear hq
    go_enter Tryd.func21, Tryd.ntmps21
    go_wp2_with (go_at_call 34; refine (HC.out _).mono ?_; rintro e w' ⟨rfl, rfl⟩)
    go_ret2
    exact ⟨by rw [HF.out]; rfl, (Below.refl _ _).alloc (Nat.le_refl _) _⟩
  · have h64 := hq rfl
    clear hq
    obtain ⟨y1, hy1, hs1, ha1⟩ := cat Tryd.prog ⟨#[39]⟩ ⟨t.toArray⟩ (by simp [ByteArray.size]; omega)
    obtain ⟨y2, hy2, _, ha2⟩ := cat Tryd.prog y1 ⟨#[39]⟩ (by rw [hs1]; simp [ByteArray.size]; omega)
    have HY := Lib.hid (And.intro hy1 hy2)
    clear hy1 hy2 hs1
    go_enter Tryd.func21, Tryd.ntmps21
    go_wp2_with (go_at_call 34; refine (HC.out _).mono ?_; rintro e w' ⟨rfl, rfl⟩)
    go_ret2
    have e1 : y2 = ⟨(39 :: (t ++ [39])).toArray⟩ := of_data (by rw [HY.out.2, HY.out.1]; rfl)
    have e2 : Ds.textF (n + 1) (.mk 4 num t l) = (39 :: (t ++ [39]), 0) := by rw [HF.out]; rfl
    exact ⟨by rw [e2, ← e1]; rfl, (Below.refl _ _).alloc (Nat.le_refl _) _⟩

set_option maxHeartbeats 400000 in
theorem text_make (n : Nat) (ih : TextSaid n) (num : Int) (t : Bs) (l : List V) (lo : Nat → Prop) (A : Option Addr) (cap : Nat) (d : Int) (w : World) (hr : RV w lo (.mk 5 num t l) (.int .i64 5) (.int .i64 num) (.string ⟨t.toArray⟩) (.slice A l.length cap)) (hd40 : d ≤ 40)
    (ht : t.length ≤ 9223372036854775807) (hx : Ds.wfL l) (hn : Ds.nodesL l ≤ 33554432) (he : Env w) (hd : d = 40 - (n : Int)) (hn40 : n ≤ 39) :
    Calls Tryd.prog 21 #[.agg #[.int .i64 5, .int .i64 num, .string ⟨t.toArray⟩, .slice A l.length cap], .int .i64 d] w fun e w' => e = .returned (.tuple #[.string ⟨(Ds.textF (n + 1) (.mk 5 num t l)).1.toArray⟩, .int .i64 (Ds.textF (n + 1) (.mk 5 num t l)).2]) ∧ Below w.heap.size w w' := by
  have hc := fun W => maker_calls ⟨t.toArray⟩ (by simp only [ByteArray.size, List.size_toArray, maxLen]; omega) W
  have hq : Ds.makerB t = true → t.length ≤ 16 := Ds.makerB_len
  have hfin : (Ds.textF (n + 1) (.mk 5 num t l)) = if Ds.makerB t && decide (l.length ≤ 6) then Ds.madeF (Ds.textF n) t l else ([], 3) := by simp [Ds.textF]
  simp only at hc
  generalize Ds.makerB t = q at hc hq hfin
  have HC := Lib.hid hc
  have HF := Lib.hid hfin
  clear hc hfin ht
  cases q
  · clear hq hr hx hn he hd ih
    go_enter Tryd.func21, Tryd.ntmps21
    go_wp2_with (go_at_call 35; refine (HC.out _).mono ?_; rintro e w' ⟨rfl, rfl⟩)
    go_ret2
    exact ⟨by rw [HF.out]; rfl, (Below.refl _ _).alloc (Nat.le_refl _) _⟩
  · have h16 := hq rfl
    clear hq
    by_cases hl : l.length ≤ 6
    · have hm := fun (W : World) (hrW : RV W lo (.mk 5 num t l) (.int .i64 5) (.int .i64 num) (.string ⟨t.toArray⟩) (.slice A l.length cap)) (heW : Env W) => made_calls n ih 5 num t l lo _ _ _ _ d W hrW hx hn heW hd hn40 hl h16
      rw [decide_eq_true hl] at HF
      have HM := Lib.hid hm
      have HR := Lib.hid hr
      have HE := Lib.hid he
      clear hm hr hx hn he hd ih
      generalize Ds.madeF (Ds.textF n) t l = p at HM HF
      go_enter Tryd.func21, Tryd.ntmps21
      go_wp2_with (first
        | (go_at_call 35; refine (HC.out _).mono ?_; rintro e w' ⟨rfl, rfl⟩)
        | (go_at_call 36; refine (HM.out _ (HR.out.below ((Below.refl _ _).alloc (Nat.le_refl _) _)) (HE.out.alloc _)).mono ?_; rintro e w1 ⟨rfl, hb1⟩))
      go_ret2
      exact ⟨by rw [HF.out]; rfl, ((Below.refl _ _).alloc (Nat.le_refl _) _).trans (hb1.mono (by simp))⟩
    · rw [decide_eq_false hl] at HF
      clear hr hx hn he hd ih
      go_enter Tryd.func21, Tryd.ntmps21
      go_wp2_with (go_at_call 35; refine (HC.out _).mono ?_; rintro e w' ⟨rfl, rfl⟩)
      go_ret2
      exact ⟨by rw [HF.out]; rfl, (Below.refl _ _).alloc (Nat.le_refl _) _⟩

set_option maxHeartbeats 400000 in
theorem text_other (n : Nat) (k num : Int) (t : Bs) (l : List V) (c3 : Value) (d : Int) (w : World) (hd : d ≤ 40) (h : k ≠ 1 ∧ k ≠ 2 ∧ k ≠ 6 ∧ k ≠ 3 ∧ k ≠ 4 ∧ k ≠ 5) :
    Calls Tryd.prog 21 #[.agg #[.int .i64 k, .int .i64 num, .string ⟨t.toArray⟩, c3], .int .i64 d] w fun e w' => e = .returned (.tuple #[.string ⟨(Ds.textF (n + 1) (.mk k num t l)).1.toArray⟩, .int .i64 (Ds.textF (n + 1) (.mk k num t l)).2]) ∧ Below w.heap.size w w' := by
  obtain ⟨h1, h2, h6, h3, h4, h5⟩ := h
  have hfin : (Ds.textF (n + 1) (.mk k num t l)) = ([], 3) := by simp [Ds.textF, h1, h2, h6, h3, h4, h5]
  have HF := Lib.hid hfin
  clear hfin
  have g1 : (k == 1) = false := by simpa using h1
  have g2 : (k == 2) = false := by simpa using h2
  have g3 : (k == 3) = false := by simpa using h3
  have g4 : (k == 4) = false := by simpa using h4
  have g5 : (k == 5) = false := by simpa using h5
  have g6 : (k == 6) = false := by simpa using h6
  clear h1 h2 h3 h4 h5 h6
  go_enter Tryd.func21, Tryd.ntmps21
  go_wp2_with fail
  go_ret2
  exact ⟨by rw [HF.out]; rfl, (Below.refl _ _).alloc (Nat.le_refl _) _⟩

theorem text_succ (n : Nat) (ih : TextSaid n) : TextSaid (n + 1) := by
  intro x lo c0 c1 c2 c3 d w hr hx hn he hd hn40
  obtain ⟨k, num, t, l⟩ := x
  have hr' := hr
  simp only [RV] at hr
  obtain ⟨rfl, rfl, rfl, A, cap, rfl, hcap, hR⟩ := hr
  simp only [Ds.wfV] at hx
  simp only [Ds.nodes] at hn
  have hd40 : d ≤ 40 := by omega
  by_cases h1 : k = 1
  · subst h1; exact text_unit n num t l _ d w hd40
  by_cases h2 : k = 2
  · subst h2; exact text_int n num t l _ d w hd40 hx.2.2.1.1 hx.2.2.1.2 he
  by_cases h6 : k = 6
  · subst h6; exact text_ref n num t l _ d w hd40 hx.2.2.1.1 hx.2.2.1.2 he
  by_cases h3 : k = 3
  · subst h3; exact text_bool n num t l _ d w hd40
  by_cases h4 : k = 4
  · subst h4; exact text_text n num t l _ d w hd40 hx.1
  by_cases h5 : k = 5
  · subst h5; exact text_make n ih num t l lo A cap d w hr' hd40 hx.1 hx.2.2.2 (by omega) he (by omega) (by omega)
  · exact text_other n k num t l _ d w hd40 ⟨h1, h2, h6, h3, h4, h5⟩

theorem text_calls : ∀ n, TextSaid n
  | 0 => text_calls0
  | n + 1 => text_succ n (text_calls n)

/-- deed.Text -/
theorem Text_calls (x : V) (lo : Nat → Prop) (c0 c1 c2 c3 : Value) (w : World) (hr : RV w lo x c0 c1 c2 c3) (hx : Ds.wfV x) (hn : Ds.nodes x ≤ 33554432) (he : Env w) :
    Calls Tryd.prog 9 #[.agg #[c0, c1, c2, c3]] w fun e w' => e = .returned (.tuple #[.string ⟨(Ds.textF 40 x).1.toArray⟩, .int .i64 (Ds.textF 40 x).2]) ∧ Below w.heap.size w w' := by
  have hc := fun (W : World) (hrW : RV W lo x c0 c1 c2 c3) (heW : Env W) => text_calls 40 x lo c0 c1 c2 c3 1 W hrW hx hn heW (by omega) (by omega)
  obtain ⟨A, cap, rfl, rfl, rfl, rfl, _, _⟩ := hr.form
  generalize Ds.textF 40 x = p at hc
  have HC := Lib.hid hc
  have HR := Lib.hid hr
  have HE := Lib.hid he
  clear hc hr hx hn he
  go_enter Tryd.func9, Tryd.ntmps9
  go_wp2_with (go_at_call 21; refine (HC.out _ (HR.out.below ((Below.refl _ _).alloc (Nat.le_refl _) _)) (HE.out.alloc _)).mono ?_; rintro e w1 ⟨rfl, hb1⟩)
  go_ret2
  exact ⟨rfl, ((Below.refl _ _).alloc (Nat.le_refl _) _).trans (hb1.mono (by simp))⟩

end Go.Proofs.YtbfiejgdgdlciaaDoor
