/-
  A DEED AS A LINE: numbers, hasText, rightArgs, right and Print, call by call.
-/
import Derived.Test.YtbfiejgdgdlciaaDoorW3
namespace Go.Proofs.YtbfiejgdgdlciaaDoor
open Go.RowKit
open Ds (V Bs D)

theorem numbers_calls (k : Int) (w : World) : Calls Tryd.prog 15 #[.int .i64 k] w fun e w' => e = .returned (.int .i64 (Ds.numbersF k : Nat)) ∧ w = w' := by
  have hfin : (Ds.numbersF k : Int) = if k = 8 ∨ k = 12 ∨ k = 13 then 2 else if k = 9 then 0 else 1 := by
    unfold Ds.numbersF; split
    · rfl
    · split <;> rfl
  have HF := Lib.hid hfin
  clear hfin
  by_cases h1 : k = 8
  · subst h1; go_enter Tryd.func15, Tryd.ntmps15; go_wp2; go_ret; exact ⟨rfl, rfl⟩
  by_cases h2 : k = 12
  · subst h2; go_enter Tryd.func15, Tryd.ntmps15; go_wp2; go_ret; exact ⟨rfl, rfl⟩
  by_cases h3 : k = 13
  · subst h3; go_enter Tryd.func15, Tryd.ntmps15; go_wp2; go_ret; exact ⟨rfl, rfl⟩
  by_cases h4 : k = 9
  · subst h4; go_enter Tryd.func15, Tryd.ntmps15; go_wp2; go_ret; exact ⟨rfl, rfl⟩
  · have hf2 : (Ds.numbersF k : Int) = 1 := by rw [HF.out]; simp [h1, h2, h3, h4]
    have HF2 := Lib.hid hf2
    have g1 : (k == 8) = false := by simpa using h1
    have g2 : (k == 12) = false := by simpa using h2
    have g3 : (k == 13) = false := by simpa using h3
    have g4 : (k == 9) = false := by simpa using h4
    clear h1 h2 h3 h4 hf2 HF
    go_enter Tryd.func15, Tryd.ntmps15
    go_wp2
    go_ret
    exact ⟨by rw [HF2.out]; rfl, rfl⟩

theorem hasText_calls (k : Int) (w : World) : Calls Tryd.prog 17 #[.int .i64 k] w fun e w' => e = .returned (.bool (Ds.hasTextF k)) ∧ w = w' := by
  by_cases h1 : k = 1
  · subst h1; go_enter Tryd.func17, Tryd.ntmps17; go_wp2; go_ret; exact ⟨rfl, rfl⟩
  by_cases h2 : k = 12
  · subst h2; go_enter Tryd.func17, Tryd.ntmps17; go_wp2; go_ret; exact ⟨rfl, rfl⟩
  · have g1 : (k == 1) = false := by simpa using h1
    have g2 : (k == 12) = false := by simpa using h2
    have hf : Ds.hasTextF k = false := by unfold Ds.hasTextF; rw [g1, g2]; rfl
    have HF := Lib.hid hf
    clear h1 h2 hf
    go_enter Tryd.func17, Tryd.ntmps17
    go_wp2
    go_ret
    exact ⟨by rw [HF.out]; rfl, rfl⟩

theorem rightArgs_calls (d : D) (A : Option Addr) (cap : Nat) (w : World) (hl : d.args.length ≤ 9223372036854775807) :
    Calls Tryd.prog 25 #[.agg #[.int .i64 d.kind, .int .i64 d.a, .int .i64 d.b, .string ⟨d.text.toArray⟩, .slice A d.args.length cap]] w fun e w' => e = .returned (.bool (Ds.rightArgsF d)) ∧ Below w.heap.size w w' := by
  obtain ⟨k, a, b, t, l⟩ := d
  simp only at hl ⊢
  by_cases h1 : k = 2
  · subst h1
    have hf : Ds.rightArgsF ⟨2, a, b, t, l⟩ = ((l.length : Int) == 1) := by
      unfold Ds.rightArgsF; simp only [if_true]; rw [Bool.eq_iff_iff]; simp; omega
    have HF := Lib.hid hf
    clear hf
    go_enter Tryd.func25, Tryd.ntmps25
    go_wp2
    go_ret
    exact ⟨by rw [HF.out]; rfl, (Below.refl _ _).alloc (Nat.le_refl _) _⟩
  by_cases h2 : k = 1
  · subst h2
    have hf : Ds.rightArgsF ⟨1, a, b, t, l⟩ = decide ((l.length : Int) ≤ 6) := by
      unfold Ds.rightArgsF; simp; omega
    have HF := Lib.hid hf
    clear hf
    go_enter Tryd.func25, Tryd.ntmps25
    go_wp2
    go_ret
    exact ⟨by rw [HF.out]; rfl, (Below.refl _ _).alloc (Nat.le_refl _) _⟩
  · have g1 : (k == 1) = false := by simpa using h2
    have g2 : (k == 2) = false := by simpa using h1
    have hf : Ds.rightArgsF ⟨k, a, b, t, l⟩ = ((l.length : Int) == 0) := by
      unfold Ds.rightArgsF; simp only [h1, h2, if_false]; rw [Bool.eq_iff_iff]; simp
    have HF := Lib.hid hf
    clear hf h1 h2
    go_enter Tryd.func25, Tryd.ntmps25
    go_wp2
    go_ret
    exact ⟨by rw [HF.out]; rfl, (Below.refl _ _).alloc (Nat.le_refl _) _⟩

theorem numbersF_cases (k : Int) : Ds.numbersF k = 0 ∨ Ds.numbersF k = 1 ∨ Ds.numbersF k = 2 := by
  unfold Ds.numbersF; split
  · simp
  · split <;> simp

set_option maxHeartbeats 3000000 in
/-- the walk of deed.right, all that it asks behind letters -/
theorem right_walk (k a b : Int) (t : Bs) (A : Option Addr) (n cap : Nat) (w : World) (nn : Nat) (hnn : nn = 0 ∨ nn = 1 ∨ nn = 2) (ht pb te ra : Bool)
    (hte : te = t.isEmpty)
    (HN : Hid (∀ W, Calls Tryd.prog 15 #[.int .i64 k] W fun e w' => e = .returned (.int .i64 (nn : Nat)) ∧ W = w'))
    (HT : Hid (∀ W, Calls Tryd.prog 17 #[.int .i64 k] W fun e w' => e = .returned (.bool ht) ∧ W = w'))
    (HP : Hid (∀ W, Calls Tryd.prog 24 #[.string ⟨t.toArray⟩] W fun e w' => e = .returned (.bool pb) ∧ W = w'))
    (HR : Hid (∀ W, Calls Tryd.prog 25 #[.agg #[.int .i64 k, .int .i64 a, .int .i64 b, .string ⟨t.toArray⟩, .slice A n cap]] W fun e w' => e = .returned (.bool ra) ∧ Below W.heap.size W w')) :
    Calls Tryd.prog 13 #[.agg #[.int .i64 k, .int .i64 a, .int .i64 b, .string ⟨t.toArray⟩, .slice A n cap]] w fun e w' =>
      e = .returned (.bool ((if ht then pb else te) && (nn == 2 || b == 0) && (decide (0 < nn) || a == 0) && ra)) ∧ Below w.heap.size w w' := by
  have hcs : nn = 2 ∨ (nn = 1 ∧ b = 0) ∨ (nn = 1 ∧ (b == 0) = false) ∨ (nn = 0 ∧ (b == 0) = false) ∨ (nn = 0 ∧ b = 0 ∧ a = 0) ∨ (nn = 0 ∧ b = 0 ∧ (a == 0) = false) := by
    simp only [beq_eq_false_iff_ne]
    by_cases h1 : b = 0 <;> by_cases h2 : a = 0 <;> simp [h1, h2] <;> omega
  have htc : (ht = true ∧ pb = true) ∨ (ht = true ∧ pb = false) ∨ (ht = false ∧ t = []) ∨ (ht = false ∧ ∃ c r, t = c :: r) := by
    cases ht <;> cases pb <;> cases t <;> simp
  clear hnn
  rcases hcs with rfl | ⟨rfl, rfl⟩ | ⟨rfl, g1⟩ | ⟨rfl, g1⟩ | ⟨rfl, rfl, rfl⟩ | ⟨rfl, rfl, g2⟩ <;> rcases htc with ⟨rfl, rfl⟩ | ⟨rfl, rfl⟩ | ⟨rfl, rfl⟩ | ⟨rfl, c, r, rfl⟩ <;>
  (have HTE := Lib.hid hte
   clear hte
   go_enter Tryd.func13, Tryd.ntmps13
   go_wp2_with (first
     | (go_at_call 15; refine (HN.out _).mono ?_; rintro e w' ⟨rfl, rfl⟩)
     | (go_at_call 17; refine (HT.out _).mono ?_; rintro e w' ⟨rfl, rfl⟩)
     | (go_at_call 24; refine (HP.out _).mono ?_; rintro e w' ⟨rfl, rfl⟩)
     | (go_at_call 25; refine (HR.out _).mono ?_; rintro e w1 ⟨rfl, hb1⟩))
   go_ret
   first
   | exact ⟨bool_ret (by rw [HTE.out]; simp [*]), ((Below.refl _ _).alloc (Nat.le_refl _) _).trans (hb1.mono (by simp))⟩
   | exact ⟨bool_ret (by rw [HTE.out]; simp [*]), (Below.refl _ _).alloc (Nat.le_refl _) _⟩
   | exact ⟨bool_ret (by simp [*]), ((Below.refl _ _).alloc (Nat.le_refl _) _).trans (hb1.mono (by simp))⟩
   | exact ⟨bool_ret (by simp [*]), (Below.refl _ _).alloc (Nat.le_refl _) _⟩)

theorem right_calls (d : D) (A : Option Addr) (cap : Nat) (w : World) (hl : d.args.length ≤ 9223372036854775807) (ht : d.text.length ≤ 9223372036854775807) :
    Calls Tryd.prog 13 #[.agg #[.int .i64 d.kind, .int .i64 d.a, .int .i64 d.b, .string ⟨d.text.toArray⟩, .slice A d.args.length cap]] w fun e w' => e = .returned (.bool (Ds.rightF d)) ∧ Below w.heap.size w w' := by
  refine (right_walk d.kind d.a d.b d.text A d.args.length cap w (Ds.numbersF d.kind) (numbersF_cases d.kind) (Ds.hasTextF d.kind) (Ds.plainB d.text) d.text.isEmpty (Ds.rightArgsF d) rfl (Lib.hid fun W => numbers_calls d.kind W)
    (Lib.hid fun W => hasText_calls d.kind W) (Lib.hid fun W => plain_calls ⟨d.text.toArray⟩ (by simp only [ByteArray.size, List.size_toArray, maxLen]; omega) W) (Lib.hid fun W => rightArgs_calls d A cap W hl)).mono fun e w' h => ⟨?_, h.2⟩
  rw [h.1]
  rfl
end Go.Proofs.YtbfiejgdgdlciaaDoor
