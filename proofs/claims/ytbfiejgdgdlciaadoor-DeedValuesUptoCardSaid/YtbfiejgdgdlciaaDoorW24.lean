/-
  THE LAW DeedBack, call by call: true at every deed of at most so many values.
-/
import Derived.Test.YtbfiejgdgdlciaaDoorW20
import Derived.Test.YtbfiejgdgdlciaaDoorLaws5
namespace Go.Proofs.YtbfiejgdgdlciaaDoor
open Go.RowKit
open Ds (V Bs D)

theorem wfL_all : ∀ {l : List V}, Ds.wfL l → ∀ y ∈ l, Ds.wfV y
  | x :: r, h, y, hy => by
    rcases List.mem_cons.1 hy with rfl | hy
    · exact h.1
    · exact wfL_all h.2 y hy

theorem printF_len {d : D} {s : Bs} (ha : inInt d.a) (hb : inInt d.b) (hw : Ds.wfL d.args) (h : Ds.printF d = (s, 0)) : s.length ≤ 72 * Ds.nodesL d.args + 100 := by
  unfold Ds.printF at h
  split at h
  · rename_i hc
    split at h
    · injection h with h _
      subst h
      have h1 := Ds.join_lsum 32 (Ds.headF d ++ (Ds.argsF (Ds.textF 40) d.args).1)
      have h2 := Ds.headF_len d hc.2.2 ha hb
      have h3 := Ds.argsF_len (Ds.textF 40) d.args (fun y hy => Ds.textF_len 40 y (wfL_all hw y hy))
      rw [Ds.lsum_append, Ds.lsum_eq (Ds.argsF _ _).1] at h1
      omega
    · injection h with _ h; cases h
  · injection h with _ h; cases h

set_option maxRecDepth 100000 in
set_option maxHeartbeats 400000 in
theorem back_big (d : D) (A : Option Addr) (cap : Nat) (w : World) (he : Env w) (hc : 100 < d.text.length ∨ (d.text.length ≤ 100 ∧ 20 < d.args.length)) :
    Calls Tryd.prog 3 #[.agg #[.int .i64 d.kind, .int .i64 d.a, .int .i64 d.b, .string ⟨d.text.toArray⟩, .slice A d.args.length cap]] w fun e w' => e = .returned (.bool true) ∧ Below w.heap.size w w' := by
  have HE := Lib.hid he
  have HL := Lib.hid (fun W (hW : Env W) => lined_calls W hW)
  clear he
  go_enter Tryd.func3, Tryd.ntmps3
  go_wp2_with (go_at_call 6; refine (HL.out _ (HE.out.alloc _)).mono ?_; rintro e w1 ⟨rfl, hb1⟩; refine Hid.out ?_)
  have hB := (Blk.new w 24 #[.int .i64 d.kind, .int .i64 d.a, .int .i64 d.b, .string ⟨d.text.toArray⟩, .slice A d.args.length cap]).below hb1 (by simp)
  have x3 := hB.cell 3
  have x4 := hB.cell 4
  simp only [List.getElem?_toArray, List.getElem?_cons_zero, List.getElem?_cons_succ] at x3 x4
  have HB := Lib.hid (((Below.refl w.heap.size w).alloc (Nat.le_refl _) (.cells #[.int .i64 d.kind, .int .i64 d.a, .int .i64 d.b, .string ⟨d.text.toArray⟩, .slice A d.args.length cap] 24)).trans (hb1.mono (by simp)))
  clear hB hb1
  rcases hc with hc | ⟨hc1, hc2⟩
  · have h1 : (100 : Int) < (d.text.length : Int) := by omega
    clear hc
    refine Lib.hid ?_
    go_wp2_with fail
    go_ret
    exact ⟨rfl, HB.out⟩
  · have h1 : (d.text.length : Int) ≤ (100 : Int) := by omega
    have h2 : (20 : Int) < (d.args.length : Int) := by omega
    clear hc1 hc2
    refine Lib.hid ?_
    go_wp2_with fail
    go_ret
    exact ⟨rfl, HB.out⟩

set_option maxRecDepth 100000 in
set_option maxHeartbeats 400000 in
theorem back_bad (d : D) (A : Option Addr) (cap : Nat) (w : World) (he : Env w) (hR : RL w (fun _ => True) A 0 d.args) (hf : Fit d) (hp : Ds.printF d = ([], 3)) (hc1 : d.text.length ≤ 100) (hc2 : d.args.length ≤ 20) :
    Calls Tryd.prog 3 #[.agg #[.int .i64 d.kind, .int .i64 d.a, .int .i64 d.b, .string ⟨d.text.toArray⟩, .slice A d.args.length cap]] w fun e w' => e = .returned (.bool true) ∧ Below w.heap.size w w' := by
  have hpr : ∀ (W : World), RL W (fun _ => True) A 0 d.args → Env W → Calls Tryd.prog 7 #[.agg #[.int .i64 d.kind, .int .i64 d.a, .int .i64 d.b, .string ⟨d.text.toArray⟩, .slice A d.args.length cap]] W fun e w' =>
      e = .returned (.tuple #[.string ⟨#[]⟩, .int .i64 3]) ∧ Below W.heap.size W w' := fun W hR hE => by
    have := Print_calls d A cap _ W hR hf hE
    rw [hp] at this
    exact this
  have HPR := Lib.hid hpr
  have HE := Lib.hid he
  have HR := Lib.hid hR
  have HL := Lib.hid (fun W (hW : Env W) => lined_calls W hW)
  have h1 : (d.text.length : Int) ≤ (100 : Int) := by omega
  have h2 : (d.args.length : Int) ≤ (20 : Int) := by omega
  clear he hpr hp hf hR hc1 hc2
  go_enter Tryd.func3, Tryd.ntmps3
  go_wp2_with (go_at_call 6; refine (HL.out _ (HE.out.alloc _)).mono ?_; rintro e w1 ⟨rfl, hb1⟩; refine Hid.out ?_)
  have hB := (Blk.new w 24 #[.int .i64 d.kind, .int .i64 d.a, .int .i64 d.b, .string ⟨d.text.toArray⟩, .slice A d.args.length cap]).below hb1 (by simp)
  have x0 := hB.cell 0
  have x1 := hB.cell 1
  have x2 := hB.cell 2
  have x3 := hB.cell 3
  have x4 := hB.cell 4
  simp only [List.getElem?_toArray, List.getElem?_cons_zero, List.getElem?_cons_succ] at x0 x1 x2 x3 x4
  have hb := ((Below.refl w.heap.size w).alloc (Nat.le_refl _) (.cells #[.int .i64 d.kind, .int .i64 d.a, .int .i64 d.b, .string ⟨d.text.toArray⟩, .slice A d.args.length cap] 24)).trans (hb1.mono (by simp))
  have HB := Lib.hid hb
  have HR1 := Lib.hid (HR.out.below hb)
  have HE1 := Lib.hid (HE.out.below hb HE.out.sz)
  clear hB hb1 hb
  refine Lib.hid ?_
  go_wp2_with (go_at_call 7; refine (HPR.out _ HR1.out HE1.out).mono ?_; rintro e w2 ⟨rfl, hb2⟩; have HB2 := Lib.hid (HB.out.trans (hb2.mono HB.out.size)); clear hb2)
  go_ret
  exact ⟨rfl, HB2.out⟩

set_option maxRecDepth 100000 in
set_option maxHeartbeats 1000000 in
theorem back_good (d : D) (A : Option Addr) (cap : Nat) (w : World) (he : Env w) (hR : RL w (fun _ => True) A 0 d.args) (hf : Fit d) (s : Bs) (hp : Ds.printF d = (s, 0)) (hs : s.length ≤ 16777216) (hc1 : d.text.length ≤ 100) (hc2 : d.args.length ≤ 20) :
    Calls Tryd.prog 3 #[.agg #[.int .i64 d.kind, .int .i64 d.a, .int .i64 d.b, .string ⟨d.text.toArray⟩, .slice A d.args.length cap]] w fun e w' => e = .returned (.bool true) ∧ Below w.heap.size w w' := by
  have hpr : ∀ (W : World), RL W (fun _ => True) A 0 d.args → Env W → Calls Tryd.prog 7 #[.agg #[.int .i64 d.kind, .int .i64 d.a, .int .i64 d.b, .string ⟨d.text.toArray⟩, .slice A d.args.length cap]] W fun e w' =>
      e = .returned (.tuple #[.string ⟨s.toArray⟩, .int .i64 0]) ∧ Below W.heap.size W w' := fun W hR hE => by
    have := Print_calls d A cap _ W hR hf hE
    rw [hp] at this
    exact this
  have hline := Ds.lineF_print ⟨hf.a, hf.b, hf.l⟩ hp
  have hfb : Fit (Ds.bareD d) ∧ Ds.printF (Ds.bareD d) = (s, 0) := by
    rcases lineF_cases s hs with h | ⟨d', h1, h2, h3⟩
    · rw [h] at hline; injection hline with _ h; cases h
    · rw [h1] at hline
      injection hline with h _
      rw [← h]
      exact ⟨h3, h2⟩
  have hpa : ∀ W, Env W → Calls Tryd.prog 8 #[.string ⟨s.toArray⟩] W fun e w' => ∃ (A : Option Addr) (cap : Nat), e = .returned (.tuple #[.agg #[.int .i64 d.kind, .int .i64 d.a, .int .i64 d.b, .string ⟨d.text.toArray⟩, .slice A d.args.length cap], .int .i64 0]) ∧
      RL w' (fun k => W.heap.size ≤ k) A 0 (Ds.bareL d.args) ∧ Below W.heap.size W w' := fun W hW => by
    have h := Parse_calls s W hW hs
    rw [hline] at h
    refine h.mono fun e w' ⟨A, cap, he, _, hR, hb⟩ => ⟨A, cap, ?_, hR, hb⟩
    rw [he]
    simp only [Ds.bareD, Ds.bareL_length]
  have hpb : ∀ (A : Option Addr) (cap : Nat) (lo : Nat → Prop) (W : World), RL W lo A 0 (Ds.bareL d.args) → Env W → Calls Tryd.prog 7 #[.agg #[.int .i64 d.kind, .int .i64 d.a, .int .i64 d.b, .string ⟨d.text.toArray⟩, .slice A d.args.length cap]] W fun e w' =>
      e = .returned (.tuple #[.string ⟨s.toArray⟩, .int .i64 0]) ∧ Below W.heap.size W w' := fun A cap lo W hR hE => by
    have := Print_calls (Ds.bareD d) A cap lo W hR hfb.1 hE
    rw [hfb.2] at this
    simp only [Ds.bareD, Ds.bareL_length] at this
    exact this
  have HPR := Lib.hid hpr
  have HPA := Lib.hid hpa
  have HPB := Lib.hid hpb
  have HE := Lib.hid he
  have HR := Lib.hid hR
  have HL := Lib.hid (fun W (hW : Env W) => lined_calls W hW)
  have h1 : (d.text.length : Int) ≤ (100 : Int) := by omega
  have h2 : (d.args.length : Int) ≤ (20 : Int) := by omega
  clear he hpr hpa hpb hp hf hR hc1 hc2 hline hfb hs
  go_enter Tryd.func3, Tryd.ntmps3
  go_wp2_with (go_at_call 6; refine (HL.out _ (HE.out.alloc _)).mono ?_; rintro e w1 ⟨rfl, hb1⟩; refine Hid.out ?_)
  have hB := (Blk.new w 24 #[.int .i64 d.kind, .int .i64 d.a, .int .i64 d.b, .string ⟨d.text.toArray⟩, .slice A d.args.length cap]).below hb1 (by simp)
  have x0 := hB.cell 0
  have x1 := hB.cell 1
  have x2 := hB.cell 2
  have x3 := hB.cell 3
  have x4 := hB.cell 4
  simp only [List.getElem?_toArray, List.getElem?_cons_zero, List.getElem?_cons_succ] at x0 x1 x2 x3 x4
  have hb := ((Below.refl w.heap.size w).alloc (Nat.le_refl _) (.cells #[.int .i64 d.kind, .int .i64 d.a, .int .i64 d.b, .string ⟨d.text.toArray⟩, .slice A d.args.length cap] 24)).trans (hb1.mono (by simp))
  have HBl := Lib.hid hB
  have HB := Lib.hid hb
  have HR1 := Lib.hid (HR.out.below hb)
  have HE1 := Lib.hid (HE.out.below hb HE.out.sz)
  clear hB hb1 hb
  refine Lib.hid ?_
  go_wp2_with (go_at_call 7; refine (HPR.out _ HR1.out HE1.out).mono ?_; rintro e w2 ⟨rfl, hb2⟩; refine Hid.out ?_)
  have HB2 := Lib.hid (HB.out.trans (hb2.mono HB.out.size))
  have HBl2 := Lib.hid (HBl.out.below hb2 HBl.out.lt)
  have HE2 := Lib.hid (HE1.out.below hb2 HE1.out.sz)
  clear hb2 x0 x1 x2 x3 x4
  refine Lib.hid ?_
  go_wp2_with (go_at_call 8; refine (HPA.out _ HE2.out).mono ?_; rintro e w3 ⟨A3, cap3, rfl, hR3, hb3⟩; refine Hid.out ?_)
  have HB3 := Lib.hid ((HB2.out.trans (hb3.mono HB2.out.size)).alloc (Nat.le_trans HB2.out.size hb3.size) (.cells #[.int .i64 d.kind, .int .i64 d.a, .int .i64 d.b, .string ⟨d.text.toArray⟩, .slice A3 d.args.length cap3] 24))
  have HBl3 := Lib.hid ((HBl2.out.below hb3 HBl2.out.lt).alloc (.cells #[.int .i64 d.kind, .int .i64 d.a, .int .i64 d.b, .string ⟨d.text.toArray⟩, .slice A3 d.args.length cap3] 24))
  have HBx3 := Lib.hid (Blk.new w3 24 #[.int .i64 d.kind, .int .i64 d.a, .int .i64 d.b, .string ⟨d.text.toArray⟩, .slice A3 d.args.length cap3])
  have HE3 := Lib.hid ((HE2.out.below hb3 HE2.out.sz).alloc (.cells #[.int .i64 d.kind, .int .i64 d.a, .int .i64 d.b, .string ⟨d.text.toArray⟩, .slice A3 d.args.length cap3] 24))
  have HR3 := Lib.hid (hR3.below ((Below.refl _ _).alloc (Nat.le_refl _) (.cells #[.int .i64 d.kind, .int .i64 d.a, .int .i64 d.b, .string ⟨d.text.toArray⟩, .slice A3 d.args.length cap3] 24)))
  clear hR3 hb3
  refine Lib.hid ?_
  go_wp2_with (go_at_call 7; refine (HPB.out _ _ _ _ HR3.out HE3.out).mono ?_; rintro e w4 ⟨rfl, hb4⟩; refine Hid.out ?_)
  have HB4 := Lib.hid (HB3.out.trans (hb4.mono HB3.out.size))
  have hB4 := HBl3.out.below hb4 HBl3.out.lt
  have hX4 := HBx3.out.below hb4 HBx3.out.lt
  have x0 := hB4.cell 0
  have x1 := hB4.cell 1
  have x2 := hB4.cell 2
  have x3 := hB4.cell 3
  have x4 := hB4.cell 4
  have y0 := hX4.cell 0
  have y1 := hX4.cell 1
  have y2 := hX4.cell 2
  have y3 := hX4.cell 3
  have y4 := hX4.cell 4
  simp only [List.getElem?_toArray, List.getElem?_cons_zero, List.getElem?_cons_succ] at x0 x1 x2 x3 x4 y0 y1 y2 y3 y4
  clear hb4 hB4 hX4
  refine Lib.hid ?_
  go_wp2_with fail
  go_ret
  exact ⟨rfl, HB4.out⟩

/-- roadkeep1.DeedBack answers true -/
theorem back_calls (d : D) (A : Option Addr) (cap : Nat) (w : World) (he : Env w) (hR : RL w (fun _ => True) A 0 d.args) (hf : Fit d) (hn : Ds.nodesL d.args ≤ 220000) :
    Calls Tryd.prog 3 #[.agg #[.int .i64 d.kind, .int .i64 d.a, .int .i64 d.b, .string ⟨d.text.toArray⟩, .slice A d.args.length cap]] w fun e w' => e = .returned (.bool true) ∧ Below w.heap.size w w' := by
  by_cases h1 : 100 < d.text.length
  · exact back_big d A cap w he (Or.inl h1)
  by_cases h2 : 20 < d.args.length
  · exact back_big d A cap w he (Or.inr ⟨by omega, h2⟩)
  by_cases h3 : (Ds.printF d).2 = 0
  · have hp : Ds.printF d = ((Ds.printF d).1, 0) := by rw [← h3]
    have hl := printF_len hf.a hf.b hf.l hp
    exact back_good d A cap w he hR hf _ hp (by omega) (by omega) (by omega)
  · exact back_bad d A cap w he hR hf (Ds.printF_err h3) (by omega) (by omega)
end Go.Proofs.YtbfiejgdgdlciaaDoor
