/-
  THE LAW DeedValues, call by call : the value has a text.
-/
import Derived.Test.YtbfiejgdgdlciaaDoorW26
import Derived.Test.YtbfiejgdgdlciaaDoorW28
import Derived.Test.YtbfiejgdgdlciaaDoorW29
namespace Go.Proofs.YtbfiejgdgdlciaaDoor
open Go.RowKit
open Ds (V Bs D)

set_option maxRecDepth 100000 in
set_option maxHeartbeats 400000 in
/-- the value has a text, the text is no value's -/
theorem values_gb (x z : V) (A : Option Addr) (cap : Nat) (s t : Bs) (w : World) (he : Env w) (hl : s.length ≤ 300) (hR : RL w (fun _ => True) A 0 x.args)
    (HT : Hid (∀ W, RL W (fun _ => True) A 0 x.args → Env W → Calls Tryd.prog 9 #[.agg #[.int .i64 x.kind, .int .i64 x.num, .string ⟨x.text.toArray⟩, .slice A x.args.length cap]] W fun e w' => e = .returned (.tuple #[.string ⟨t.toArray⟩, .int .i64 0]) ∧ Below W.heap.size W w'))
    (HVT : Hid (ReadSaid t z 0)) (HV : Hid (ReadSaid s Ds.zeroV 10))
    (HBV : Hid (∀ W, RL W (fun _ => True) A 0 x.args → Env W → Calls Tryd.prog 12 #[.agg #[.int .i64 x.kind, .int .i64 x.num, .string ⟨x.text.toArray⟩, .slice A x.args.length cap]] W fun e w' => ∃ (A9 : Option Addr) (cap9 : Nat), e = .returned (.agg #[.int .i64 z.kind, .int .i64 z.num, .string ⟨z.text.toArray⟩, .slice A9 z.args.length cap9]) ∧
      RL w' (fun k => W.heap.size ≤ k) A9 0 z.args ∧ Below W.heap.size W w')) (HS : Hid (SameSaid z)) :
    Calls Tryd.prog 5 #[.agg #[.int .i64 x.kind, .int .i64 x.num, .string ⟨x.text.toArray⟩, .slice A x.args.length cap], .string ⟨s.toArray⟩] w fun e w' => e = .returned (.bool true) ∧ Below w.heap.size w w' := by
  have HE := Lib.hid he
  have HR := Lib.hid hR
  have HL := Lib.hid (fun W (hW : Env W) => lined_calls W hW)
  have hl2 : (s.length : Int) ≤ (300 : Int) := by omega
  clear he hl hR
  go_enter Tryd.func5, Tryd.ntmps5
  go_wp2_with (go_at_call 6; refine (HL.out _ (HE.out.alloc _)).mono ?_; rintro e w1 ⟨rfl, hb1⟩; refine Hid.out ?_)
  have hb := ((Below.refl w.heap.size w).alloc (Nat.le_refl _) (.cells #[.int .i64 x.kind, .int .i64 x.num, .string ⟨x.text.toArray⟩, .slice A x.args.length cap] 34)).trans (hb1.mono (by simp))
  have hB := (Blk.new w 34 #[.int .i64 x.kind, .int .i64 x.num, .string ⟨x.text.toArray⟩, .slice A x.args.length cap]).below hb1 (by simp)
  have x0 := hB.cell 0
  have x1 := hB.cell 1
  have x2 := hB.cell 2
  have x3 := hB.cell 3
  simp only [List.getElem?_toArray, List.getElem?_cons_zero, List.getElem?_cons_succ] at x0 x1 x2 x3
  have HB := Lib.hid hb
  have HBx := Lib.hid hB
  have HR1 := Lib.hid (HR.out.below hb)
  have HE1 := Lib.hid (HE.out.below hb HE.out.sz)
  clear hb hb1 hB
  refine Lib.hid ?_
  go_wp2_with (go_at_call 9; refine (HT.out _ HR1.out HE1.out).mono ?_; rintro e w2 ⟨rfl, hb2⟩; refine Hid.out ?_)
  have HB2 := Lib.hid (HB.out.trans (hb2.mono HB.out.size))
  have HBx2 := Lib.hid (HBx.out.below hb2 HBx.out.lt)
  have HE2 := Lib.hid (HE1.out.below hb2 HE1.out.sz)
  have HR2 := Lib.hid (HR1.out.below hb2)
  clear hb2 x0 x1 x2 x3
  refine Lib.hid ?_
  go_wp2_with (go_at_call 10; refine (HVT.out _ HE2.out).mono ?_; rintro e w3 ⟨A3, cap3, rfl, hv3, hb3⟩; refine Hid.out ?_)
  have hzr : RL w3 (fun k => w2.heap.size ≤ k) A3 0 z.args := by
    obtain ⟨A4, c4, _, _, _, e4, _, hr⟩ := hv3.form
    injection e4 with e1 _ _
    rw [e1]
    exact hr
  have HZR := Lib.hid hzr
  have HB3 := Lib.hid (hb3)
  have HBX3 := Lib.hid ((HBx2.out.below hb3 HBx2.out.lt).alloc (.cells #[.int .i64 z.kind, .int .i64 z.num, .string ⟨z.text.toArray⟩, .slice A3 z.args.length cap3] 34))
  have HBZ3 := Lib.hid (Blk.new w3 34 #[.int .i64 z.kind, .int .i64 z.num, .string ⟨z.text.toArray⟩, .slice A3 z.args.length cap3])
  have x0 := HBX3.out.cell 0
  have x1 := HBX3.out.cell 1
  have x2 := HBX3.out.cell 2
  have x3 := HBX3.out.cell 3
  have z0 := HBZ3.out.cell 0
  have z1 := HBZ3.out.cell 1
  have z2 := HBZ3.out.cell 2
  have z3 := HBZ3.out.cell 3
  simp only [List.getElem?_toArray, List.getElem?_cons_zero, List.getElem?_cons_succ] at x0 x1 x2 x3 z0 z1 z2 z3
  have HR3 := Lib.hid (((HR2.out.below hb3).below ((Below.refl _ _).alloc (Nat.le_refl _) (.cells #[.int .i64 z.kind, .int .i64 z.num, .string ⟨z.text.toArray⟩, .slice A3 z.args.length cap3] 34))))
  clear hzr hv3 hb3
  refine Lib.hid ?_
  have HE3 : Hid (Env (w3.alloc (.cells #[.int .i64 z.kind, .int .i64 z.num, .string ⟨z.text.toArray⟩, .slice A3 z.args.length cap3] 34)).drew) := Lib.hid (((HE2.out.below HB3.out HE2.out.sz).alloc _).heap rfl)
  have hbA : Below w.heap.size w (w3.alloc (.cells #[.int .i64 z.kind, .int .i64 z.num, .string ⟨z.text.toArray⟩, .slice A3 z.args.length cap3] 34)).drew :=
    ((HB2.out.trans (HB3.out.mono HB2.out.size)).alloc (Nat.le_trans HB2.out.size HB3.out.size) _).drew
  have HBA := Lib.hid hbA
  clear hbA
  have HRD := Lib.hid (HR3.out.below (Below.refl _ _).drew)
  have HZD := Lib.hid ((HZR.out.below ((Below.refl _ _).alloc (Nat.le_refl _) (.cells #[.int .i64 z.kind, .int .i64 z.num, .string ⟨z.text.toArray⟩, .slice A3 z.args.length cap3] 34))).below (Below.refl _ _).drew)
  go_upto_region 8 with fail
  go_region_law (first
    | (go_simp
       go_at_call 12
       refine (HBV.out _ (by exact HRD.out) (by exact HE3.out)).mono ?_
       rintro e w9 ⟨A9, cap9, rfl, hr9, hb9⟩
       have hZ9 := (HBZ3.out.drew).below hb9 (by exact HBZ3.out.lt)
       have q0 : w9.cell? ⟨w3.heap.size, 0, none⟩ = some (.int .i64 z.kind) := hZ9.cell 0
       have q1 : w9.cell? ⟨w3.heap.size, 1, none⟩ = some (.int .i64 z.num) := hZ9.cell 1
       have q2 : w9.cell? ⟨w3.heap.size, 2, none⟩ = some (.string ⟨z.text.toArray⟩) := hZ9.cell 2
       have q3 : w9.cell? ⟨w3.heap.size, 3, none⟩ = some (.slice A3 z.args.length cap3) := hZ9.cell 3)
    | (go_simp
       go_at_call 11
       refine (HS.out _ _ _ _ _ _ _ (HZD.out.below hb9) hr9).mono ?_
       rintro e w10 ⟨rfl, hb10⟩))
  all_goals
    have hbW : Below w.heap.size w w10 := (HBA.out.trans (hb9.mono HBA.out.size)).trans (hb10.mono (Nat.le_trans HBA.out.size hb9.size))
    have HBW := Lib.hid hbW
    have HEW := Lib.hid (HE.out.below hbW HE.out.sz)
    clear hbW hb9 hb10 hr9 hZ9 q0 q1 q2 q3 x0 x1 x2 x3 z0 z1 z2 z3
    go_wp2_with (go_at_call 10; refine (HV.out _ HEW.out).mono ?_; rintro e w11 ⟨A11, cap11, rfl, _, hb11⟩; refine Hid.out ?_)
    have hX := Blk.new w11 34 #[.int .i64 0, .int .i64 0, .string ⟨#[]⟩, .slice A11 0 cap11]
    have z0 := hX.cell 0
    simp only [List.getElem?_toArray, List.getElem?_cons_zero] at z0
    have HB11 := Lib.hid ((HBW.out.trans (hb11.mono HBW.out.size)).alloc (Nat.le_trans HBW.out.size hb11.size) (.cells #[.int .i64 0, .int .i64 0, .string ⟨#[]⟩, .slice A11 0 cap11] 34))
    clear hX hb11
    refine Lib.hid ?_
    go_wp2_with fail
    go_ret
    exact ⟨rfl, HB11.out⟩
set_option maxRecDepth 100000 in
set_option maxHeartbeats 400000 in
/-- the value has a text, the text is a value's -/
theorem values_gg (x y z : V) (A : Option Addr) (cap : Nat) (s t : Bs) (w : World) (he : Env w) (hl : s.length ≤ 300) (hR : RL w (fun _ => True) A 0 x.args)
    (HT : Hid (∀ W, RL W (fun _ => True) A 0 x.args → Env W → Calls Tryd.prog 9 #[.agg #[.int .i64 x.kind, .int .i64 x.num, .string ⟨x.text.toArray⟩, .slice A x.args.length cap]] W fun e w' => e = .returned (.tuple #[.string ⟨t.toArray⟩, .int .i64 0]) ∧ Below W.heap.size W w'))
    (HVT : Hid (ReadSaid t z 0)) (HV : Hid (ReadSaid s y 0))
    (HT2 : Hid (∀ (A9 : Option Addr) (cap9 : Nat) (S : Nat → Prop) (W : World), RV W S y (.int .i64 y.kind) (.int .i64 y.num) (.string ⟨y.text.toArray⟩) (.slice A9 y.args.length cap9) → Env W → Calls Tryd.prog 9 #[.agg #[.int .i64 y.kind, .int .i64 y.num, .string ⟨y.text.toArray⟩, .slice A9 y.args.length cap9]] W fun e w' => e = .returned (.tuple #[.string ⟨s.toArray⟩, .int .i64 0]) ∧ Below W.heap.size W w'))
    (HBV : Hid (∀ W, RL W (fun _ => True) A 0 x.args → Env W → Calls Tryd.prog 12 #[.agg #[.int .i64 x.kind, .int .i64 x.num, .string ⟨x.text.toArray⟩, .slice A x.args.length cap]] W fun e w' => ∃ (A9 : Option Addr) (cap9 : Nat), e = .returned (.agg #[.int .i64 z.kind, .int .i64 z.num, .string ⟨z.text.toArray⟩, .slice A9 z.args.length cap9]) ∧
      RL w' (fun k => W.heap.size ≤ k) A9 0 z.args ∧ Below W.heap.size W w')) (HS : Hid (SameSaid z)) :
    Calls Tryd.prog 5 #[.agg #[.int .i64 x.kind, .int .i64 x.num, .string ⟨x.text.toArray⟩, .slice A x.args.length cap], .string ⟨s.toArray⟩] w fun e w' => e = .returned (.bool true) ∧ Below w.heap.size w w' := by
  have HE := Lib.hid he
  have HR := Lib.hid hR
  have HL := Lib.hid (fun W (hW : Env W) => lined_calls W hW)
  have hl2 : (s.length : Int) ≤ (300 : Int) := by omega
  clear he hl hR
  go_enter Tryd.func5, Tryd.ntmps5
  go_wp2_with (go_at_call 6; refine (HL.out _ (HE.out.alloc _)).mono ?_; rintro e w1 ⟨rfl, hb1⟩; refine Hid.out ?_)
  have hb := ((Below.refl w.heap.size w).alloc (Nat.le_refl _) (.cells #[.int .i64 x.kind, .int .i64 x.num, .string ⟨x.text.toArray⟩, .slice A x.args.length cap] 34)).trans (hb1.mono (by simp))
  have hB := (Blk.new w 34 #[.int .i64 x.kind, .int .i64 x.num, .string ⟨x.text.toArray⟩, .slice A x.args.length cap]).below hb1 (by simp)
  have x0 := hB.cell 0
  have x1 := hB.cell 1
  have x2 := hB.cell 2
  have x3 := hB.cell 3
  simp only [List.getElem?_toArray, List.getElem?_cons_zero, List.getElem?_cons_succ] at x0 x1 x2 x3
  have HB := Lib.hid hb
  have HBx := Lib.hid hB
  have HR1 := Lib.hid (HR.out.below hb)
  have HE1 := Lib.hid (HE.out.below hb HE.out.sz)
  clear hb hb1 hB
  refine Lib.hid ?_
  go_wp2_with (go_at_call 9; refine (HT.out _ HR1.out HE1.out).mono ?_; rintro e w2 ⟨rfl, hb2⟩; refine Hid.out ?_)
  have HB2 := Lib.hid (HB.out.trans (hb2.mono HB.out.size))
  have HBx2 := Lib.hid (HBx.out.below hb2 HBx.out.lt)
  have HE2 := Lib.hid (HE1.out.below hb2 HE1.out.sz)
  have HR2 := Lib.hid (HR1.out.below hb2)
  clear hb2 x0 x1 x2 x3
  refine Lib.hid ?_
  go_wp2_with (go_at_call 10; refine (HVT.out _ HE2.out).mono ?_; rintro e w3 ⟨A3, cap3, rfl, hv3, hb3⟩; refine Hid.out ?_)
  have hzr : RL w3 (fun k => w2.heap.size ≤ k) A3 0 z.args := by
    obtain ⟨A4, c4, _, _, _, e4, _, hr⟩ := hv3.form
    injection e4 with e1 _ _
    rw [e1]
    exact hr
  have HZR := Lib.hid hzr
  have HB3 := Lib.hid (hb3)
  have HBX3 := Lib.hid ((HBx2.out.below hb3 HBx2.out.lt).alloc (.cells #[.int .i64 z.kind, .int .i64 z.num, .string ⟨z.text.toArray⟩, .slice A3 z.args.length cap3] 34))
  have HBZ3 := Lib.hid (Blk.new w3 34 #[.int .i64 z.kind, .int .i64 z.num, .string ⟨z.text.toArray⟩, .slice A3 z.args.length cap3])
  have x0 := HBX3.out.cell 0
  have x1 := HBX3.out.cell 1
  have x2 := HBX3.out.cell 2
  have x3 := HBX3.out.cell 3
  have z0 := HBZ3.out.cell 0
  have z1 := HBZ3.out.cell 1
  have z2 := HBZ3.out.cell 2
  have z3 := HBZ3.out.cell 3
  simp only [List.getElem?_toArray, List.getElem?_cons_zero, List.getElem?_cons_succ] at x0 x1 x2 x3 z0 z1 z2 z3
  have HR3 := Lib.hid (((HR2.out.below hb3).below ((Below.refl _ _).alloc (Nat.le_refl _) (.cells #[.int .i64 z.kind, .int .i64 z.num, .string ⟨z.text.toArray⟩, .slice A3 z.args.length cap3] 34))))
  clear hzr hv3 hb3
  refine Lib.hid ?_
  have HE3 : Hid (Env (w3.alloc (.cells #[.int .i64 z.kind, .int .i64 z.num, .string ⟨z.text.toArray⟩, .slice A3 z.args.length cap3] 34)).drew) := Lib.hid (((HE2.out.below HB3.out HE2.out.sz).alloc _).heap rfl)
  have hbA : Below w.heap.size w (w3.alloc (.cells #[.int .i64 z.kind, .int .i64 z.num, .string ⟨z.text.toArray⟩, .slice A3 z.args.length cap3] 34)).drew :=
    ((HB2.out.trans (HB3.out.mono HB2.out.size)).alloc (Nat.le_trans HB2.out.size HB3.out.size) _).drew
  have HBA := Lib.hid hbA
  clear hbA
  have HRD := Lib.hid (HR3.out.below (Below.refl _ _).drew)
  have HZD := Lib.hid ((HZR.out.below ((Below.refl _ _).alloc (Nat.le_refl _) (.cells #[.int .i64 z.kind, .int .i64 z.num, .string ⟨z.text.toArray⟩, .slice A3 z.args.length cap3] 34))).below (Below.refl _ _).drew)
  go_upto_region 8 with fail
  go_region_law (first
    | (go_simp
       go_at_call 12
       refine (HBV.out _ (by exact HRD.out) (by exact HE3.out)).mono ?_
       rintro e w9 ⟨A9, cap9, rfl, hr9, hb9⟩
       have hZ9 := (HBZ3.out.drew).below hb9 (by exact HBZ3.out.lt)
       have q0 : w9.cell? ⟨w3.heap.size, 0, none⟩ = some (.int .i64 z.kind) := hZ9.cell 0
       have q1 : w9.cell? ⟨w3.heap.size, 1, none⟩ = some (.int .i64 z.num) := hZ9.cell 1
       have q2 : w9.cell? ⟨w3.heap.size, 2, none⟩ = some (.string ⟨z.text.toArray⟩) := hZ9.cell 2
       have q3 : w9.cell? ⟨w3.heap.size, 3, none⟩ = some (.slice A3 z.args.length cap3) := hZ9.cell 3)
    | (go_simp
       go_at_call 11
       refine (HS.out _ _ _ _ _ _ _ (HZD.out.below hb9) hr9).mono ?_
       rintro e w10 ⟨rfl, hb10⟩))
  all_goals
    have hbW : Below w.heap.size w w10 := (HBA.out.trans (hb9.mono HBA.out.size)).trans (hb10.mono (Nat.le_trans HBA.out.size hb9.size))
    have HBW := Lib.hid hbW
    have HEW := Lib.hid (HE.out.below hbW HE.out.sz)
    clear hbW hb9 hb10 hr9 hZ9 q0 q1 q2 q3 x0 x1 x2 x3 z0 z1 z2 z3
    go_wp2_with (go_at_call 10; refine (HV.out _ HEW.out).mono ?_; rintro e w11 ⟨A11, cap11, rfl, hv11, hb11⟩; refine Hid.out ?_)
    have HV11 := Lib.hid (hv11.below ((Below.refl _ _).alloc (Nat.le_refl _) (.cells #[.int .i64 y.kind, .int .i64 y.num, .string ⟨y.text.toArray⟩, .slice A11 y.args.length cap11] 34)))
    have HE11 := Lib.hid ((HEW.out.below hb11 HEW.out.sz).alloc (.cells #[.int .i64 y.kind, .int .i64 y.num, .string ⟨y.text.toArray⟩, .slice A11 y.args.length cap11] 34))
    have HB11 := Lib.hid ((HBW.out.trans (hb11.mono HBW.out.size)).alloc (Nat.le_trans HBW.out.size hb11.size) (.cells #[.int .i64 y.kind, .int .i64 y.num, .string ⟨y.text.toArray⟩, .slice A11 y.args.length cap11] 34))
    clear hv11 hb11
    refine Lib.hid ?_
    go_wp2_with (go_at_call 9; refine (HT2.out _ _ _ _ HV11.out HE11.out).mono ?_; rintro e w12 ⟨rfl, hb12⟩; have HB12 := Lib.hid (HB11.out.trans (hb12.mono HB11.out.size)); clear hb12)
    go_ret
    exact ⟨rfl, HB12.out⟩
end Go.Proofs.YtbfiejgdgdlciaaDoor
