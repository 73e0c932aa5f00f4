/-
  THE LAW DeedOnly, call by call: true at every text.
-/
import Derived.Test.YtbfiejgdgdlciaaDoorW19
namespace Go.Proofs.YtbfiejgdgdlciaaDoor
open Go.RowKit
open Ds (V Bs D)

theorem lineF_cases (s : Bs) (hl : s.length ≤ 16777216) : Ds.lineF s = (Ds.zeroD, 10) ∨ ∃ d, Ds.lineF s = (d, 0) ∧ Ds.printF d = (s, 0) ∧ Fit d := by
  unfold Ds.lineF
  cases hp : Ds.parseF (Ds.splitF [] [] false s) with
  | none => exact Or.inl rfl
  | some d =>
    simp only
    split
    · rename_i h
      have hsum : Ds.lsum (Ds.splitF [] [] false s) = s.length + 1 := by
        rw [Ds.splitF_lsum]; simp [Ds.lsum]; omega
      exact Or.inr ⟨d, rfl, by rw [← h.1, ← h.2], Ds.parseF_fit hp (by omega)⟩
    · exact Or.inl rfl

set_option maxHeartbeats 400000 in
theorem only_long (s : Bs) (w : World) (he : Env w) (hl : 300 < s.length) : Calls Tryd.prog 4 #[.string ⟨s.toArray⟩] w fun e w' => e = .returned (.bool true) ∧ Below w.heap.size w w' := by
  have HE := Lib.hid he
  have HL := Lib.hid (fun W (hW : Env W) => lined_calls W hW)
  have hl2 : (300 : Int) < (s.length : Int) := by omega
  clear he hl
  go_enter Tryd.func4, Tryd.ntmps4
  go_wp2_with (go_at_call 6; refine (HL.out _ HE.out).mono ?_; rintro e w1 ⟨rfl, hb1⟩)
  go_ret
  exact ⟨rfl, hb1⟩

set_option maxHeartbeats 400000 in
theorem only_bad (s : Bs) (w : World) (he : Env w) (hl : s.length ≤ 300) (ho : Ds.lineF s = (Ds.zeroD, 10)) : Calls Tryd.prog 4 #[.string ⟨s.toArray⟩] w fun e w' => e = .returned (.bool true) ∧ Below w.heap.size w w' := by
  have hP : ∀ W, Env W → Calls Tryd.prog 8 #[.string ⟨s.toArray⟩] W fun e w' => ∃ (A : Option Addr) (cap : Nat), e = .returned (.tuple #[.agg #[.int .i64 0, .int .i64 0, .int .i64 0, .string ⟨#[]⟩, .slice A 0 cap], .int .i64 10]) ∧ Below W.heap.size W w' := fun W hW => by
    have h := Parse_calls s W hW (by omega)
    rw [ho] at h
    exact h.mono fun e w' ⟨A, cap, he, _, _, hb⟩ => ⟨A, cap, he, hb⟩
  have HE := Lib.hid he
  have HP := Lib.hid hP
  have HL := Lib.hid (fun W (hW : Env W) => lined_calls W hW)
  have hl2 : (s.length : Int) ≤ (300 : Int) := by omega
  clear he hl hP ho
  go_enter Tryd.func4, Tryd.ntmps4
  go_wp2_with (first
    | (go_at_call 6; refine (HL.out _ HE.out).mono ?_; rintro e w1 ⟨rfl, hb1⟩; have HE1 := Lib.hid (HE.out.below hb1 HE.out.sz); have HB1 := Lib.hid hb1; clear hb1)
    | (go_at_call 8; refine (HP.out _ HE1.out).mono ?_; rintro e w2 ⟨A, cap, rfl, hb2⟩; refine Hid.out ?_))
  have hB := Blk.new w2 24 #[.int .i64 0, .int .i64 0, .int .i64 0, .string ⟨#[]⟩, .slice A 0 cap]
  have x0 := hB.cell 0
  have x4 := hB.cell 4
  simp only [List.getElem?_toArray, List.getElem?_cons_zero, List.getElem?_cons_succ] at x0 x4
  have HB := Lib.hid ((HB1.out.trans (hb2.mono HB1.out.size)).alloc (Nat.le_trans HB1.out.size hb2.size) (.cells #[.int .i64 0, .int .i64 0, .int .i64 0, .string ⟨#[]⟩, .slice A 0 cap] 24))
  clear hB hb2
  refine Lib.hid ?_
  go_wp2_with fail
  go_ret
  exact ⟨rfl, HB.out⟩

set_option maxHeartbeats 400000 in
theorem only_good (s : Bs) (w : World) (he : Env w) (hl : s.length ≤ 300) (d : D) (ho : Ds.lineF s = (d, 0)) (hp : Ds.printF d = (s, 0)) (hf : Fit d) : Calls Tryd.prog 4 #[.string ⟨s.toArray⟩] w fun e w' => e = .returned (.bool true) ∧ Below w.heap.size w w' := by
  have hP : ∀ W, Env W → Calls Tryd.prog 8 #[.string ⟨s.toArray⟩] W fun e w' => ∃ (A : Option Addr) (cap : Nat), e = .returned (.tuple #[.agg #[.int .i64 d.kind, .int .i64 d.a, .int .i64 d.b, .string ⟨d.text.toArray⟩, .slice A d.args.length cap], .int .i64 0]) ∧
      RL w' (fun k => W.heap.size ≤ k) A 0 d.args ∧ Below W.heap.size W w' := fun W hW => by
    have h := Parse_calls s W hW (by omega)
    rw [ho] at h
    exact h.mono fun e w' ⟨A, cap, he, _, hR, hb⟩ => ⟨A, cap, he, hR, hb⟩
  have hpr : ∀ (A : Option Addr) (cap : Nat) (lo : Nat → Prop) (W : World), RL W lo A 0 d.args → Env W → Calls Tryd.prog 7 #[.agg #[.int .i64 d.kind, .int .i64 d.a, .int .i64 d.b, .string ⟨d.text.toArray⟩, .slice A d.args.length cap]] W fun e w' =>
      e = .returned (.tuple #[.string ⟨s.toArray⟩, .int .i64 0]) ∧ Below W.heap.size W w' := fun A cap lo W hR hE => by
    have := Print_calls d A cap lo W hR hf hE
    rw [hp] at this
    exact this
  have HE := Lib.hid he
  have HP := Lib.hid hP
  have HPR := Lib.hid hpr
  have HL := Lib.hid (fun W (hW : Env W) => lined_calls W hW)
  have hl2 : (s.length : Int) ≤ (300 : Int) := by omega
  clear he hl hP ho hp hf hpr
  go_enter Tryd.func4, Tryd.ntmps4
  go_wp2_with (first
    | (go_at_call 6; refine (HL.out _ HE.out).mono ?_; rintro e w1 ⟨rfl, hb1⟩; have HE1 := Lib.hid (HE.out.below hb1 HE.out.sz); have HB1 := Lib.hid hb1; clear hb1)
    | (go_at_call 8; refine (HP.out _ HE1.out).mono ?_; rintro e w2 ⟨A, cap, rfl, hRL, hb2⟩; refine Hid.out ?_))
  have hEa := HE1.out.below hb2 HE1.out.sz
  have HEA := Lib.hid (hEa.alloc (.cells #[.int .i64 d.kind, .int .i64 d.a, .int .i64 d.b, .string ⟨d.text.toArray⟩, .slice A d.args.length cap] 24))
  have HRA := Lib.hid (hRL.below ((Below.refl _ _).alloc (Nat.le_refl _) (.cells #[.int .i64 d.kind, .int .i64 d.a, .int .i64 d.b, .string ⟨d.text.toArray⟩, .slice A d.args.length cap] 24)))
  have HB := Lib.hid ((HB1.out.trans (hb2.mono HB1.out.size)).alloc (Nat.le_trans HB1.out.size hb2.size) (.cells #[.int .i64 d.kind, .int .i64 d.a, .int .i64 d.b, .string ⟨d.text.toArray⟩, .slice A d.args.length cap] 24))
  clear hEa hRL hb2
  refine Lib.hid ?_
  go_wp2_with (go_at_call 7; refine (HPR.out _ _ _ _ HRA.out HEA.out).mono ?_; rintro e w3 ⟨rfl, hb3⟩; have HB3 := Lib.hid (HB.out.trans (hb3.mono HB.out.size)); clear hb3)
  go_ret
  exact ⟨rfl, HB3.out⟩

/-- roadkeep1.DeedOnly answers true -/
theorem only_calls (s : Bs) (w : World) (he : Env w) : Calls Tryd.prog 4 #[.string ⟨s.toArray⟩] w fun e w' => e = .returned (.bool true) ∧ Below w.heap.size w w' := by
  by_cases hl : 300 < s.length
  · exact only_long s w he hl
  · rcases lineF_cases s (by omega) with h | ⟨d, h1, h2, h3⟩
    · exact only_bad s w he (by omega) h
    · exact only_good s w he (by omega) d h1 h2 h3
end Go.Proofs.YtbfiejgdgdlciaaDoor
