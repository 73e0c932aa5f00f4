/-
  THE LAW DeedValues, call by call (in work): the long text.
-/
import Derived.Test.YtbfiejgdgdlciaaDoorW20
import Derived.Test.YtbfiejgdgdlciaaDoorLaws5
namespace Go.Proofs.YtbfiejgdgdlciaaDoor
open Go.RowKit
open Ds (V Bs D)

theorem valF_cases (s : Bs) : Ds.valF s = (Ds.zeroV, 10) ∨ ∃ v, Ds.valF s = (v, 0) ∧ Ds.textF 40 v = (s, 0) := by
  unfold Ds.valF
  split
  · exact Or.inl rfl
  · split
    · rename_i h
      exact Or.inr ⟨_, rfl, Prod.ext h.2 h.1⟩
    · exact Or.inl rfl

set_option maxRecDepth 100000 in
set_option maxHeartbeats 400000 in
theorem values_long (x : V) (A : Option Addr) (cap : Nat) (s : Bs) (w : World) (he : Env w) (hl : 300 < s.length) :
    Calls Tryd.prog 5 #[.agg #[.int .i64 x.kind, .int .i64 x.num, .string ⟨x.text.toArray⟩, .slice A x.args.length cap], .string ⟨s.toArray⟩] w fun e w' => e = .returned (.bool true) ∧ Below w.heap.size w w' := by
  have HE := Lib.hid he
  have HL := Lib.hid (fun W (hW : Env W) => lined_calls W hW)
  have hl2 : (300 : Int) < (s.length : Int) := by omega
  clear he hl
  have hb := (Below.refl w.heap.size w).alloc (Nat.le_refl _) (.cells #[.int .i64 x.kind, .int .i64 x.num, .string ⟨x.text.toArray⟩, .slice A x.args.length cap] 34)
  have HB := Lib.hid hb
  clear hb
  go_enter Tryd.func5, Tryd.ntmps5
  go_wp2_with (go_at_call 6; refine (HL.out _ (HE.out.alloc _)).mono ?_; rintro e w1 ⟨rfl, hb1⟩; have HB1 := Lib.hid (HB.out.trans (hb1.mono (by simp))); clear hb1)
  go_ret
  exact ⟨rfl, HB1.out⟩

/-- what the second half of the law needs of deed.Value at s: read or not -/
def ReadSaid (s : Bs) (y : V) (er : Int) : Prop := ∀ W, Env W → Calls Tryd.prog 10 #[.string ⟨s.toArray⟩] W fun e w' => ∃ (A9 : Option Addr) (cap9 : Nat), e = .returned (.tuple #[.agg #[.int .i64 y.kind, .int .i64 y.num, .string ⟨y.text.toArray⟩, .slice A9 y.args.length cap9], .int .i64 er]) ∧
  RV w' (fun k => W.heap.size ≤ k) y (.int .i64 y.kind) (.int .i64 y.num) (.string ⟨y.text.toArray⟩) (.slice A9 y.args.length cap9) ∧ Below W.heap.size W w'

theorem read_said (s : Bs) (hl : s.length ≤ 16777216) (y : V) (er : Int) (h : Ds.valF s = (y, er)) : ReadSaid s y er := fun W hW => by
  have hc := Value_calls s W hW hl
  rw [h] at hc
  refine hc.mono fun e w' ⟨c0, c1, c2, c3, he, hv, hb⟩ => ?_
  obtain ⟨A9, cap9, rfl, rfl, rfl, rfl, _, _⟩ := hv.form
  exact ⟨A9, cap9, he, hv, hb⟩

set_option maxRecDepth 100000 in
set_option maxHeartbeats 400000 in
/-- the value has no text, the text is no value's -/
theorem values_eb (x : V) (A : Option Addr) (cap : Nat) (s : Bs) (w : World) (he : Env w) (hl : s.length ≤ 300) (hR : RL w (fun _ => True) A 0 x.args) (te : Int) (hte : te ≠ 0)
    (HT : Hid (∀ W, RL W (fun _ => True) A 0 x.args → Env W → Calls Tryd.prog 9 #[.agg #[.int .i64 x.kind, .int .i64 x.num, .string ⟨x.text.toArray⟩, .slice A x.args.length cap]] W fun e w' => e = .returned (.tuple #[.string ⟨#[]⟩, .int .i64 te]) ∧ Below W.heap.size W w'))
    (HV : Hid (ReadSaid s Ds.zeroV 10)) :
    Calls Tryd.prog 5 #[.agg #[.int .i64 x.kind, .int .i64 x.num, .string ⟨x.text.toArray⟩, .slice A x.args.length cap], .string ⟨s.toArray⟩] w fun e w' => e = .returned (.bool true) ∧ Below w.heap.size w w' := by
  have HE := Lib.hid he
  have HR := Lib.hid hR
  have HL := Lib.hid (fun W (hW : Env W) => lined_calls W hW)
  have hl2 : (s.length : Int) ≤ (300 : Int) := by omega
  have hne : (te == 0) = false := by simpa using hte
  clear he hl hR hte
  go_enter Tryd.func5, Tryd.ntmps5
  go_wp2_with (go_at_call 6; refine (HL.out _ (HE.out.alloc _)).mono ?_; rintro e w1 ⟨rfl, hb1⟩; refine Hid.out ?_)
  have hb := ((Below.refl w.heap.size w).alloc (Nat.le_refl _) (.cells #[.int .i64 x.kind, .int .i64 x.num, .string ⟨x.text.toArray⟩, .slice A x.args.length cap] 34)).trans (hb1.mono (by simp))
  have hB := (Blk.new w 34 #[.int .i64 x.kind, .int .i64 x.num, .string ⟨x.text.toArray⟩, .slice A x.args.length cap]).below hb1 (by simp)
  have x0 := hB.cell 0
  have x1 := hB.cell 1
  have x2 := hB.cell 2
  have x3 := hB.cell 3
  simp only [List.getElem?_toArray, List.getElem?_cons_zero, List.getElem?_cons_succ] at x0 x1 x2 x3
  have HB := Lib.hid hb
  have HR1 := Lib.hid (HR.out.below hb)
  have HE1 := Lib.hid (HE.out.below hb HE.out.sz)
  clear hb hb1 hB
  refine Lib.hid ?_
  go_wp2_with (go_at_call 9; refine (HT.out _ HR1.out HE1.out).mono ?_; rintro e w2 ⟨rfl, hb2⟩; refine Hid.out ?_)
  have HB2 := Lib.hid (HB.out.trans (hb2.mono HB.out.size))
  have HE2 := Lib.hid (HE1.out.below hb2 HE1.out.sz)
  clear hb2 x0 x1 x2 x3
  refine Lib.hid ?_
  go_wp2_with (go_at_call 10; refine (HV.out _ HE2.out).mono ?_; rintro e w3 ⟨A9, cap9, rfl, _, hb3⟩; refine Hid.out ?_)
  have hX := Blk.new w3 34 #[.int .i64 0, .int .i64 0, .string ⟨#[]⟩, .slice A9 0 cap9]
  have z0 := hX.cell 0
  simp only [List.getElem?_toArray, List.getElem?_cons_zero] at z0
  have HB3 := Lib.hid ((HB2.out.trans (hb3.mono HB2.out.size)).alloc (Nat.le_trans HB2.out.size hb3.size) (.cells #[.int .i64 0, .int .i64 0, .string ⟨#[]⟩, .slice A9 0 cap9] 34))
  clear hX hb3
  refine Lib.hid ?_
  go_wp2_with fail
  go_ret
  exact ⟨rfl, HB3.out⟩
set_option maxRecDepth 100000 in
set_option maxHeartbeats 400000 in
/-- the value has no text, the text is a value's -/
theorem values_eg (x y : V) (A : Option Addr) (cap : Nat) (s : Bs) (w : World) (he : Env w) (hl : s.length ≤ 300) (hR : RL w (fun _ => True) A 0 x.args) (te : Int) (hte : te ≠ 0)
    (HT : Hid (∀ W, RL W (fun _ => True) A 0 x.args → Env W → Calls Tryd.prog 9 #[.agg #[.int .i64 x.kind, .int .i64 x.num, .string ⟨x.text.toArray⟩, .slice A x.args.length cap]] W fun e w' => e = .returned (.tuple #[.string ⟨#[]⟩, .int .i64 te]) ∧ Below W.heap.size W w'))
    (HV : Hid (ReadSaid s y 0))
    (HT2 : Hid (∀ (A9 : Option Addr) (cap9 : Nat) (S : Nat → Prop) (W : World), RV W S y (.int .i64 y.kind) (.int .i64 y.num) (.string ⟨y.text.toArray⟩) (.slice A9 y.args.length cap9) → Env W → Calls Tryd.prog 9 #[.agg #[.int .i64 y.kind, .int .i64 y.num, .string ⟨y.text.toArray⟩, .slice A9 y.args.length cap9]] W fun e w' => e = .returned (.tuple #[.string ⟨s.toArray⟩, .int .i64 0]) ∧ Below W.heap.size W w')) :
    Calls Tryd.prog 5 #[.agg #[.int .i64 x.kind, .int .i64 x.num, .string ⟨x.text.toArray⟩, .slice A x.args.length cap], .string ⟨s.toArray⟩] w fun e w' => e = .returned (.bool true) ∧ Below w.heap.size w w' := by
  have HE := Lib.hid he
  have HR := Lib.hid hR
  have HL := Lib.hid (fun W (hW : Env W) => lined_calls W hW)
  have hl2 : (s.length : Int) ≤ (300 : Int) := by omega
  have hne : (te == 0) = false := by simpa using hte
  clear he hl hR hte
  go_enter Tryd.func5, Tryd.ntmps5
  go_wp2_with (go_at_call 6; refine (HL.out _ (HE.out.alloc _)).mono ?_; rintro e w1 ⟨rfl, hb1⟩; refine Hid.out ?_)
  have hb := ((Below.refl w.heap.size w).alloc (Nat.le_refl _) (.cells #[.int .i64 x.kind, .int .i64 x.num, .string ⟨x.text.toArray⟩, .slice A x.args.length cap] 34)).trans (hb1.mono (by simp))
  have hB := (Blk.new w 34 #[.int .i64 x.kind, .int .i64 x.num, .string ⟨x.text.toArray⟩, .slice A x.args.length cap]).below hb1 (by simp)
  have x0 := hB.cell 0
  have x1 := hB.cell 1
  have x2 := hB.cell 2
  have x3 := hB.cell 3
  simp only [List.getElem?_toArray, List.getElem?_cons_zero, List.getElem?_cons_succ] at x0 x1 x2 x3
  have HB := Lib.hid hb
  have HR1 := Lib.hid (HR.out.below hb)
  have HE1 := Lib.hid (HE.out.below hb HE.out.sz)
  clear hb hb1 hB
  refine Lib.hid ?_
  go_wp2_with (go_at_call 9; refine (HT.out _ HR1.out HE1.out).mono ?_; rintro e w2 ⟨rfl, hb2⟩; refine Hid.out ?_)
  have HB2 := Lib.hid (HB.out.trans (hb2.mono HB.out.size))
  have HE2 := Lib.hid (HE1.out.below hb2 HE1.out.sz)
  clear hb2 x0 x1 x2 x3
  refine Lib.hid ?_
  go_wp2_with (go_at_call 10; refine (HV.out _ HE2.out).mono ?_; rintro e w3 ⟨A9, cap9, rfl, hv3, hb3⟩; refine Hid.out ?_)
  have HV3 := Lib.hid (hv3.below ((Below.refl _ _).alloc (Nat.le_refl _) (.cells #[.int .i64 y.kind, .int .i64 y.num, .string ⟨y.text.toArray⟩, .slice A9 y.args.length cap9] 34)))
  have HE3 := Lib.hid ((HE2.out.below hb3 HE2.out.sz).alloc (.cells #[.int .i64 y.kind, .int .i64 y.num, .string ⟨y.text.toArray⟩, .slice A9 y.args.length cap9] 34))
  have HB3 := Lib.hid ((HB2.out.trans (hb3.mono HB2.out.size)).alloc (Nat.le_trans HB2.out.size hb3.size) (.cells #[.int .i64 y.kind, .int .i64 y.num, .string ⟨y.text.toArray⟩, .slice A9 y.args.length cap9] 34))
  clear hb3 hv3
  refine Lib.hid ?_
  go_wp2_with (go_at_call 9; refine (HT2.out _ _ _ _ HV3.out HE3.out).mono ?_; rintro e w4 ⟨rfl, hb4⟩; have HB4 := Lib.hid (HB3.out.trans (hb4.mono HB3.out.size)); clear hb4)
  go_ret
  exact ⟨rfl, HB4.out⟩
end Go.Proofs.YtbfiejgdgdlciaaDoor
