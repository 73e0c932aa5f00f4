/-
  PLAIN LAWS, no program in sight: how long a value's text is.
-/
import Derived.Test.YtbfiejgdgdlciaaDoorSpec
import Derived.Lib.ItoaLen
namespace Go.Proofs.YtbfiejgdgdlciaaDoor.Ds
open Go.Lib (itoa atoiAll atoiSat join)

theorem nodes_pos (x : V) : 1 ≤ nodes x := by
  cases x; simp only [nodes]; omega

theorem join_len (sep : Bs) : ∀ xs : List Bs, (join xs sep).length ≤ (xs.map fun x => x.length + sep.length).sum
  | [] => by simp [Go.Lib.join_nil]
  | [x] => by rw [Go.Lib.join_one]; simp
  | x :: y :: r => by
    have ih := join_len sep (y :: r)
    have e : join (x :: y :: r) sep = x ++ (sep ++ join (y :: r) sep) := by
      rw [Go.Lib.join_cons, Go.Lib.join_cons]
      simp [Go.Lib.joinTail]
    rw [e, List.map_cons, List.sum_cons, List.length_append, List.length_append]
    omega

theorem argsF_len (f : V → Bs × Int) : ∀ (l : List V), (∀ y ∈ l, (f y).1.length + 1 ≤ 72 * nodes y) → ((argsF f l).1.map fun x => x.length + 1).sum ≤ 72 * nodesL l
  | [], _ => by simp [argsF]
  | x :: r, h => by
    have hx := h x List.mem_cons_self
    have hr := argsF_len f r (fun y hy => h y (List.mem_cons_of_mem _ hy))
    simp only [argsF, nodesL]
    split
    · split
      · simp only [List.map_cons, List.sum_cons]; omega
      · simp
    · simp

theorem madeF_len (f : V → Bs × Int) (t : Bs) (l : List V) (ht : t.length ≤ 16) (h : ∀ y ∈ l, (f y).1.length + 1 ≤ 72 * nodes y) : (madeF f t l).1.length + 1 ≤ 72 * (1 + nodesL l) := by
  unfold madeF
  have h1 := argsF_len f l h
  have h2 := join_len [44] (argsF f l).1
  simp only [List.length_cons, List.length_nil, Nat.zero_add] at h2
  split
  · split
    · simp only; omega
    · simp only [List.length_append, List.length_cons, List.length_nil]; omega
  · simp only [List.length_nil]; omega

theorem plainB_len {t : Bs} (h : plainB t = true) : t.length ≤ 16 := by
  unfold plainB at h
  simp only [Bool.and_eq_true, decide_eq_true_eq] at h
  exact h.2.2
theorem makerB_len {t : Bs} (h : makerB t = true) : t.length ≤ 16 := by
  unfold makerB at h
  simp only [Bool.and_eq_true] at h
  exact plainB_len h.1
theorem quotB_len {t : Bs} (h : quotB t = true) : t.length ≤ 64 := by
  unfold quotB at h
  simp only [Bool.and_eq_true, decide_eq_true_eq] at h
  exact h.2

theorem wf_memL {l : List V} {y : V} (hl : wfL l) (h : y ∈ l) : wfV y := by
  induction l with
  | nil => cases h
  | cons x r ih =>
    simp only [wfL] at hl
    cases List.mem_cons.1 h with
    | inl e => subst e; exact hl.1
    | inr e => exact ih hl.2 e

theorem textF_len : ∀ (n : Nat) (x : V), wfV x → (textF n x).1.length + 1 ≤ 72 * nodes x
  | 0, x, _ => by have := nodes_pos x; simp only [textF, List.length_nil]; omega
  | n + 1, .mk k num t l, h => by
    simp only [wfV] at h
    have hi := Go.Lib.itoa_length_le num h.2.2.1.1 h.2.2.1.2
    simp only [textF, nodes]
    split
    · simp only [List.length_cons, List.length_nil]; omega
    split
    · simp only; omega
    split
    · simp only [List.length_cons]; omega
    split
    · split
      · unfold boolT; split <;> simp [trueT, falseT] <;> omega
      · simp only [List.length_nil]; omega
    split
    · split
      · rename_i hq
        have := quotB_len hq
        simp only [List.length_cons, List.length_append, List.length_nil]; omega
      · simp only [List.length_nil]; omega
    split
    · split
      · rename_i hq
        simp only [Bool.and_eq_true] at hq
        exact madeF_len _ t l (makerB_len hq.1) (fun y hy => textF_len n y (wf_memL h.2.2.2 hy))
      · simp only [List.length_nil]; omega
    · simp only [List.length_nil]; omega


/-- the lengths of some strings, each and one more -/
def lsum : List Bs → Nat
  | [] => 0
  | x :: r => x.length + 1 + lsum r
theorem lsum_append : ∀ a b : List Bs, lsum (a ++ b) = lsum a + lsum b
  | [], b => by simp [lsum]
  | x :: r, b => by simp only [List.cons_append, lsum, lsum_append r b]; omega
theorem lsum_eq : ∀ a : List Bs, lsum a = (a.map fun x => x.length + 1).sum
  | [] => rfl
  | x :: r => by simp only [lsum, lsum_eq r, List.map_cons, List.sum_cons]
theorem join_lsum (c : UInt8) (xs : List Bs) : (join xs [c]).length ≤ lsum xs := by
  have := join_len [c] xs
  rw [lsum_eq]
  simpa using this

theorem words_len : ∀ (i : Nat), (wordsL.getD i []).length ≤ 7 := by
  intro i
  match i with
  | 0 | 1 | 2 | 3 | 4 | 5 | 6 | 7 | 8 | 9 | 10 | 11 | 12 => decide
  | n + 13 => simp [wordsL]

theorem headF_len (d : D) (hr : rightF d = true) (ha : -9223372036854775808 ≤ d.a ∧ d.a ≤ 9223372036854775807) (hb : -9223372036854775808 ≤ d.b ∧ d.b ≤ 9223372036854775807) : lsum (headF d) ≤ 100 := by
  have h1 := words_len (d.kind.toNat - 1)
  have h2 := Go.Lib.itoa_length_le d.a ha.1 ha.2
  have h3 := Go.Lib.itoa_length_le d.b hb.1 hb.2
  unfold headF
  have h4 : lsum (if hasTextF d.kind then [d.text] else []) ≤ 17 := by
    cases h : hasTextF d.kind with
    | false => simp [lsum]
    | true =>
      unfold rightF at hr
      simp only [h, if_true, Bool.and_eq_true] at hr
      have := plainB_len hr.1.1.1
      simp [lsum]; omega
  have h5 : lsum (([d.a, d.b].take (numbersF d.kind)).map itoa) ≤ 44 := by
    match numbersF d.kind with
    | 0 => simp [lsum]
    | 1 => simp [lsum]; omega
    | n + 2 => simp [lsum]; omega
  rw [lsum, lsum_append]
  omega

end Go.Proofs.YtbfiejgdgdlciaaDoor.Ds
