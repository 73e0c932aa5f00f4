/-
  A DEED AS A LINE: Print at every deed.
-/
import Derived.Test.YtbfiejgdgdlciaaDoorW5
namespace Go.Proofs.YtbfiejgdgdlciaaDoor
open Go.RowKit
open Ds (V Bs D)

def inInt (k : Int) : Prop := -9223372036854775808 ≤ k ∧ k ≤ 9223372036854775807

/-- a deed as it may come: int64's, no text too long, not too many values -/
structure Fit (d : D) : Prop where
  a : inInt d.a
  b : inInt d.b
  k : inInt d.kind
  t : d.text.length ≤ 9223372036854775807
  l : Ds.wfL d.args
  n : Ds.nodesL d.args ≤ 33554432

theorem printF_bad (d : D) (h : ¬ (1 ≤ d.kind ∧ d.kind < 14 ∧ Ds.rightF d = true)) : Ds.printF d = ([], 3) := by
  unfold Ds.printF
  rw [if_neg h]

theorem nodes_len : ∀ l : List V, l.length ≤ Ds.nodesL l
  | [] => Nat.le_refl _
  | x :: r => by
    have := nodes_len r
    have := Ds.nodes_pos x
    simp only [List.length_cons, Ds.nodesL]; omega

theorem rightF_len {d : D} (h : Ds.rightF d = true) : d.args.length ≤ 6 := by
  unfold Ds.rightF at h
  simp only [Bool.and_eq_true] at h
  have h1 := h.2
  unfold Ds.rightArgsF at h1
  split at h1
  · have := beq_iff_eq.1 h1; omega
  · split at h1
    · exact of_decide_eq_true h1
    · have := beq_iff_eq.1 h1; omega

set_option maxHeartbeats 400000 in
theorem print_bad_lo (k a b : Int) (t : Bs) (n : Nat) (A : Option Addr) (cap : Nat) (w : World) (c : k < 1) :
    Calls Tryd.prog 7 #[.agg #[.int .i64 k, .int .i64 a, .int .i64 b, .string ⟨t.toArray⟩, .slice A n cap]] w fun e w' =>
      e = .returned (.tuple #[.string ⟨#[]⟩, .int .i64 3]) ∧ Below w.heap.size w w' := by
  go_enter Tryd.func7, Tryd.ntmps7
  go_wp2_with fail
  go_ret2
  exact ⟨rfl, (Below.refl _ _).alloc (Nat.le_refl _) _⟩

set_option maxHeartbeats 400000 in
theorem print_bad_hi (k a b : Int) (t : Bs) (n : Nat) (A : Option Addr) (cap : Nat) (w : World) (c1 : 1 ≤ k) (c2 : 14 ≤ k) :
    Calls Tryd.prog 7 #[.agg #[.int .i64 k, .int .i64 a, .int .i64 b, .string ⟨t.toArray⟩, .slice A n cap]] w fun e w' =>
      e = .returned (.tuple #[.string ⟨#[]⟩, .int .i64 3]) ∧ Below w.heap.size w w' := by
  go_enter Tryd.func7, Tryd.ntmps7
  go_wp2_with fail
  go_ret2
  exact ⟨rfl, (Below.refl _ _).alloc (Nat.le_refl _) _⟩

set_option maxHeartbeats 400000 in
theorem print_bad (k a b : Int) (t : Bs) (n : Nat) (A : Option Addr) (cap : Nat) (w : World) (c : k < 1 ∨ (1 ≤ k ∧ 14 ≤ k) ∨ (1 ≤ k ∧ k < 14))
    (HRC : Hid (∀ W, Calls Tryd.prog 13 #[.agg #[.int .i64 k, .int .i64 a, .int .i64 b, .string ⟨t.toArray⟩, .slice A n cap]] W fun e w' => e = .returned (.bool false) ∧ Below W.heap.size W w')) :
    Calls Tryd.prog 7 #[.agg #[.int .i64 k, .int .i64 a, .int .i64 b, .string ⟨t.toArray⟩, .slice A n cap]] w fun e w' =>
      e = .returned (.tuple #[.string ⟨#[]⟩, .int .i64 3]) ∧ Below w.heap.size w w' := by
  rcases c with c | ⟨c1, c2⟩ | ⟨c1, c2⟩
  · exact print_bad_lo k a b t n A cap w c
  · exact print_bad_hi k a b t n A cap w c1 c2
  · go_enter Tryd.func7, Tryd.ntmps7
    go_wp2_with (go_at_call 13; refine (HRC.out _).mono ?_; rintro e w1 ⟨rfl, hb1⟩)
    go_ret2
    exact ⟨rfl, ((Below.refl _ _).alloc (Nat.le_refl _) _).trans (hb1.mono (by simp))⟩

/-- deed.Print -/
theorem Print_calls (d : D) (A : Option Addr) (cap : Nat) (lo : Nat → Prop) (w : World) (hR : RL w lo A 0 d.args) (hf : Fit d) (he : Env w) :
    Calls Tryd.prog 7 #[.agg #[.int .i64 d.kind, .int .i64 d.a, .int .i64 d.b, .string ⟨d.text.toArray⟩, .slice A d.args.length cap]] w fun e w' =>
      e = .returned (.tuple #[.string ⟨(Ds.printF d).1.toArray⟩, .int .i64 (Ds.printF d).2]) ∧ Below w.heap.size w w' := by
  by_cases h : 1 ≤ d.kind ∧ d.kind < 14 ∧ Ds.rightF d = true
  · obtain ⟨m, hm⟩ : ∃ m : Nat, d.kind = (m : Int) + 1 := ⟨(d.kind - 1).toNat, by omega⟩
    exact print_good m d.kind d.a d.b hm d.text d.args A cap lo w hR hf.l hf.n he (by omega) h.2.2 hf.a hf.b (rightF_len h.2.2) hf.t
  · rw [printF_bad d h]
    by_cases hr : Ds.rightF d = true
    · have c : d.kind < 1 ∨ (1 ≤ d.kind ∧ 14 ≤ d.kind) := by
        by_cases h1 : 1 ≤ d.kind
        · by_cases h2 : d.kind < 14
          · exact absurd ⟨h1, h2, hr⟩ h
          · omega
        · omega
      rcases c with c | ⟨c1, c2⟩
      · exact print_bad_lo d.kind d.a d.b d.text d.args.length A cap w c
      · exact print_bad_hi d.kind d.a d.b d.text d.args.length A cap w c1 c2
    · have hr' : Ds.rightF d = false := by simpa using hr
      have hlen : d.args.length ≤ 9223372036854775807 := by have := nodes_len d.args; have := hf.n; omega
      exact print_bad d.kind d.a d.b d.text d.args.length A cap w (by omega) (Lib.hid fun W => by
        have := right_calls d A cap W hlen hf.t
        rw [hr'] at this
        exact this)
end Go.Proofs.YtbfiejgdgdlciaaDoor
