/-
  WHAT IS PRINTED IS READ: the plain laws of values' texts and of deeds' lines.
-/
import Derived.Test.YtbfiejgdgdlciaaDoorSpec
import Derived.Lib.ItoaMem
namespace Go.Proofs.YtbfiejgdgdlciaaDoor
open Ds (V Bs D)

namespace Ds
open Go.Lib (itoa atoiAll decDigits parseUint10 parseMag join joinTail)

/-! ### numerals -/
theorem pu_append : ∀ (l r : List UInt8) (acc v : Nat), parseUint10 acc l = .ok v → parseUint10 acc (l ++ r) = parseUint10 v r
  | [], r, acc, v, h => by
    simp only [parseUint10] at h
    injection h with h
    rw [h]; rfl
  | c :: l, r, acc, v, h => by
    simp only [parseUint10, List.cons_append] at h ⊢
    split at h
    · rename_i hc
      rw [if_pos hc]
      split at h
      · cases h
      · rename_i h1
        rw [if_neg h1]
        split at h
        · cases h
        · rename_i h2
          rw [if_neg h2]
          exact pu_append l r _ v h
    · cases h

theorem ofNat_toNat (u : Nat) (h : u < 10) : (UInt8.ofNat (48 + u)).toNat = 48 + u := by
  rw [UInt8.toNat_ofNat']
  omega

theorem pu_one (acc u : Nat) (h : u < 10) (h1 : acc * 10 + u < 18446744073709551616) : parseUint10 acc [UInt8.ofNat (48 + u)] = .ok (acc * 10 + u) := by
  simp only [parseUint10, ofNat_toNat u h]
  rw [if_pos (by omega), if_neg (by omega), if_neg (by omega)]
  congr 1
  omega

theorem pu_dec (u : Nat) : u < 18446744073709551616 → parseUint10 0 (decDigits u) = .ok u := by
  induction u using Nat.strongRecOn with
  | _ u ih =>
    intro hu
    by_cases h : u < 10
    · rw [decDigits, dif_pos h]
      have := pu_one 0 u h (by omega)
      simpa using this
    · rw [decDigits, dif_neg h, pu_append _ _ _ _ (ih (u / 10) (by omega) (by omega)), pu_one (u / 10) (u % 10) (by omega) (by omega)]
      congr 1
      omega

theorem dec_digit (u : Nat) : ∀ c ∈ decDigits u, 48 ≤ c.toNat ∧ c.toNat ≤ 57 := by
  induction u using Nat.strongRecOn with
  | _ u ih =>
    intro c hc
    by_cases h : u < 10
    · rw [decDigits, dif_pos h] at hc
      obtain rfl := List.mem_singleton.1 hc
      rw [ofNat_toNat u h]; omega
    · rw [decDigits, dif_neg h] at hc
      rcases List.mem_append.1 hc with hc | hc
      · exact ih (u / 10) (by omega) c hc
      · obtain rfl := List.mem_singleton.1 hc
        rw [ofNat_toNat _ (by omega)]; omega

theorem dec_ne (u : Nat) : decDigits u ≠ [] := by
  by_cases h : u < 10
  · rw [decDigits, dif_pos h]; simp
  · rw [decDigits, dif_neg h]; simp

theorem pm_dec (u : Nat) (hu : u < 18446744073709551616) : parseMag (decDigits u) = .ok u := by
  unfold parseMag
  rw [if_neg (dec_ne u), pu_dec u hu]

theorem atoi_itoa (n : Int) (h0 : -9223372036854775808 ≤ n) (h1 : n ≤ 9223372036854775807) : atoiAll (itoa n) = .ok n := by
  unfold itoa
  by_cases hn : n < 0
  · rw [if_pos hn]
    have e : (45 : UInt8).toNat = 45 := rfl
    simp only [atoiAll, e]
    rw [if_pos (Or.inr trivial), pm_dec _ (by omega)]
    simp only
    rw [if_neg (fun h => h.1 trivial), if_neg (by omega), if_pos trivial]
    congr 1
    omega
  · rw [if_neg hn]
    have hm := pm_dec n.toNat (by omega)
    have hd := dec_digit n.toNat
    cases hx : decDigits n.toNat with
    | nil => exact absurd hx (dec_ne _)
    | cons c r =>
      rw [hx] at hm hd
      have hc := hd c (by simp)
      simp only [atoiAll]
      rw [if_neg (by omega), hm]
      simp only
      rw [if_neg (by omega), if_neg (by omega), if_neg (by omega)]
      congr 1
      omega

theorem atoiN_itoa {n : Int} (h0 : -9223372036854775808 ≤ n) (h1 : n ≤ 9223372036854775807) : atoiN (itoa n) = (n, false) := by
  unfold atoiN
  rw [atoi_itoa n h0 h1]

theorem dig_of {c : UInt8} (h : 48 ≤ c.toNat ∧ c.toNat ≤ 57) : digB c = true := by
  unfold digB
  simp only [Bool.and_eq_true, decide_eq_true_eq, UInt8.le_iff_toNat_le]
  exact h

theorem itoa_num (n : Int) : ∀ c ∈ itoa n, numB c = true := by
  intro c hc
  unfold itoa at hc
  unfold numB
  split at hc
  · rcases List.mem_cons.1 hc with rfl | hc
    · rfl
    · rw [dig_of (dec_digit _ c hc)]; simp
  · rw [dig_of (dec_digit _ c hc)]; simp
theorem itoa_ne (n : Int) : itoa n ≠ [] := by
  unfold itoa
  split
  · simp
  · exact dec_ne _

/-! ### values -/
def Stop (rest : Bs) : Prop := ∀ c r, rest = c :: r → nameB c = false ∧ numB c = false ∧ c ≠ 40
theorem stop_nil : Stop [] := fun _ _ h => by cases h
theorem stop_41 (r : Bs) : Stop (41 :: r) := fun c _ h => by injection h with h _; subst h; decide
theorem stop_44 (r : Bs) : Stop (44 :: r) := fun c _ h => by injection h with h _; subst h; decide

theorem while_stop (f : UInt8 → Bool) : ∀ (l rest : Bs), (∀ c ∈ l, f c = true) → (∀ c r, rest = c :: r → f c = false) → (l ++ rest).takeWhile f = l ∧ (l ++ rest).dropWhile f = rest
  | [], [], _, _ => ⟨rfl, rfl⟩
  | [], c :: r, _, h => by
    have := h c r rfl
    simp [this]
  | c :: l, rest, hl, hr => by
    have h1 := hl c (by simp)
    have ih := while_stop f l rest (fun x hx => hl x (by simp [hx])) hr
    simp [h1, ih.1, ih.2]

theorem numF_itoa {n : Int} (h0 : -9223372036854775808 ≤ n) (h1 : n ≤ 9223372036854775807) {rest : Bs} (hs : Stop rest) : numF (itoa n ++ rest) false = (n, rest, false) := by
  have h := while_stop numB (itoa n) rest (itoa_num n) (fun c r e => (hs c r e).2.1)
  unfold numF
  rw [h.1, h.2, atoiN_itoa h0 h1]
  simp

theorem join_cons2 (x y : Bs) (r : List Bs) (c : UInt8) : join (x :: y :: r) [c] = x ++ c :: join (y :: r) [c] := by
  rw [Lib.join_cons, Lib.join_cons]
  simp [joinTail]

theorem argsF_cons {f : V → Bs × Int} {x : V} {xs : List V} {ss : List Bs} (h : argsF f (x :: xs) = (ss, 0)) : ∃ s ss', ss = s :: ss' ∧ f x = (s, 0) ∧ argsF f xs = (ss', 0) := by
  simp only [argsF] at h
  split at h
  · rename_i h1
    split at h
    · rename_i h2
      injection h with h _
      exact ⟨(f x).1, (argsF f xs).1, h.symm, by rw [← h1], by rw [← h2]⟩
    · rename_i h2
      injection h with _ h
      exact absurd h h2
  · rename_i h1
    injection h with _ h
    exact absurd h h1
theorem argsF_nil {f : V → Bs × Int} {ss : List Bs} (h : argsF f [] = (ss, 0)) : ss = [] := by
  simp only [argsF] at h
  injection h with h _
  exact h.symm

theorem loopF_text (n : Nat) (ih : ∀ (v : V) (t rest : Bs), wfV v → textF n v = (t, 0) → Stop rest → valueF n (t ++ rest) false = (bareF v, rest, false)) :
    ∀ (l : List V) (ss : List Bs) (m : Nat) (rest : Bs), wfL l → argsF (textF n) l = (ss, 0) → l ≠ [] → l.length ≤ m → loopF (valueF n) m (join ss [44] ++ 41 :: rest) false = (bareL l, rest, false)
  | [], _, _, _, _, _, hne, _ => absurd rfl hne
  | x :: xs, ss, m, rest, hw, h, _, hm => by
    obtain ⟨s, ss', rfl, h1, h2⟩ := argsF_cons h
    cases m with
    | zero => simp at hm
    | succ m =>
      cases xs with
      | nil =>
        obtain rfl := argsF_nil h2
        rw [Lib.join_one]
        have hx := ih x s (41 :: rest) hw.1 h1 (stop_41 rest)
        simp only [loopF, hx]
        simp [hasP, bareL]
      | cons y ys =>
        obtain ⟨s', ss'', rfl, h3, h4⟩ := argsF_cons h2
        rw [join_cons2, List.append_assoc, List.cons_append]
        have hx := ih x s (44 :: (join (s' :: ss'') [44] ++ 41 :: rest)) hw.1 h1 (stop_44 _)
        have hr := loopF_text n ih (y :: ys) (s' :: ss'') m rest hw.2 h2 (by simp) (by simp at hm ⊢; omega)
        simp only [loopF, hx]
        simp [hasP, bareL, hr]

theorem join_len_ge (c : UInt8) : ∀ (ss : List Bs), ss.length ≤ (join ss [c]).length + 1
  | [] => by simp
  | [x] => by simp
  | x :: y :: r => by
    have := join_len_ge c (y :: r)
    rw [join_cons2]
    simp at this ⊢
    omega
theorem argsF_len' {f : V → Bs × Int} : ∀ {l : List V} {ss : List Bs}, argsF f l = (ss, 0) → ss.length = l.length
  | [], ss, h => by rw [argsF_nil h]; rfl
  | x :: xs, ss, h => by
    obtain ⟨s, ss', rfl, _, h2⟩ := argsF_cons h
    simp [argsF_len' h2]

theorem cap_let {c : UInt8} (h : (decide (65 ≤ c) && decide (c ≤ 90)) = true) : letB c = true ∧ c ≠ 40 ∧ c ≠ 64 ∧ c ≠ 39 ∧ c ≠ 116 ∧ c ≠ 102 := by
  have h0 := h
  simp only [Bool.and_eq_true, decide_eq_true_eq, UInt8.le_iff_toNat_le] at h
  have e1 : (65 : UInt8).toNat = 65 := rfl
  have e2 : (90 : UInt8).toNat = 90 := rfl
  rw [e1, e2] at h
  refine ⟨by unfold letB; rw [h0]; simp, ?_, ?_, ?_, ?_, ?_⟩
  all_goals
    rintro rfl
    revert h
    decide

theorem num_head {c : UInt8} (h : numB c = true) : c ≠ 40 ∧ c ≠ 64 ∧ c ≠ 39 ∧ letB c = false := by
  unfold numB digB at h
  have : c = 45 ∨ (48 ≤ c.toNat ∧ c.toNat ≤ 57) := by
    rcases Bool.or_eq_true _ _ ▸ h with h | h
    · exact Or.inl (by simpa using h)
    · simp only [Bool.and_eq_true, decide_eq_true_eq, UInt8.le_iff_toNat_le] at h
      exact Or.inr h
  rcases this with rfl | h
  · decide
  · refine ⟨?_, ?_, ?_, ?_⟩
    · rintro rfl; revert h; decide
    · rintro rfl; revert h; decide
    · rintro rfl; revert h; decide
    · unfold letB
      have e1 : (65 : UInt8).toNat = 65 := rfl
      have e2 : (97 : UInt8).toNat = 97 := rfl
      have a : decide (97 ≤ c) = false := by
        rw [decide_eq_false_iff_not, UInt8.le_iff_toNat_le, e2]; omega
      have b : decide (65 ≤ c) = false := by
        rw [decide_eq_false_iff_not, UInt8.le_iff_toNat_le, e1]; omega
      rw [a, b]; rfl

theorem quo_noQ {c : UInt8} (h : quoB c = true) : noQ c = true := by
  unfold quoB at h
  unfold noQ
  simp only [Bool.and_eq_true] at h
  exact h.2

/-- a value's text is read as that value -/
theorem valueF_text : ∀ (n : Nat) (v : V) (t rest : Bs), wfV v → textF n v = (t, 0) → Stop rest → valueF n (t ++ rest) false = (bareF v, rest, false)
  | 0, v, t, rest, _, h, _ => by
    simp only [textF] at h
    injection h with _ h
    cases h
  | n + 1, .mk k num x l, t, rest, hw, h, hs => by
    have ih := valueF_text n
    simp only [wfV] at hw
    obtain ⟨_, _, hn, hl⟩ := hw
    simp only [textF] at h
    split at h
    · rename_i hk
      subst hk
      injection h with h _
      subst h
      simp [valueF, hasP, bareF]
    split at h
    · rename_i _ hk
      subst hk
      injection h with h _
      subst h
      cases hi : itoa num with
      | nil => exact absurd hi (itoa_ne num)
      | cons c q =>
        have hc := num_head (itoa_num num c (by rw [hi]; simp))
        have hf := numF_itoa hn.1 hn.2 hs
        rw [hi, List.cons_append] at hf
        rw [List.cons_append]
        simp only [valueF]
        rw [if_neg (by simp [hasP, Ne.symm hc.1]), if_neg hc.2.1, if_neg hc.2.2.1, if_neg (by simp [hc.2.2.2]), hf]
        simp [bareF]
    split at h
    · rename_i _ _ hk
      subst hk
      injection h with h _
      subst h
      rw [List.cons_append]
      simp only [valueF]
      rw [if_neg (by simp [hasP]), if_pos trivial, numF_itoa hn.1 hn.2 hs]
      simp [bareF]
    split at h
    · rename_i _ _ _ hk
      subst hk
      split at h
      · rename_i hnum
        injection h with h _
        rcases hnum with rfl | rfl
        · have h2 : falseT = t := h
          subst h2
          have hw := while_stop nameB falseT rest (by decide) (fun c r e => (hs c r e).1)
          have e : falseT ++ rest = 102 :: ([97, 108, 115, 101] ++ rest) := rfl
          rw [e] at hw ⊢
          simp only [valueF]
          rw [if_neg (by simp [hasP]), if_neg (by decide), if_neg (by decide), if_pos (by decide), hw.1, hw.2]
          simp [consF, bareF, trueT, falseT]
        · have h2 : trueT = t := h
          subst h2
          have hw := while_stop nameB trueT rest (by decide) (fun c r e => (hs c r e).1)
          have e : trueT ++ rest = 116 :: ([114, 117, 101] ++ rest) := rfl
          rw [e] at hw ⊢
          simp only [valueF]
          rw [if_neg (by simp [hasP]), if_neg (by decide), if_neg (by decide), if_pos (by decide), hw.1, hw.2]
          simp [consF, bareF]
      · injection h with _ h
        cases h
    split at h
    · rename_i _ _ _ _ hk
      subst hk
      split at h
      · rename_i hq
        injection h with h _
        subst h
        unfold quotB at hq
        simp only [Bool.and_eq_true, List.all_eq_true] at hq
        have hw := while_stop noQ x (39 :: rest) (fun c hc => quo_noQ (hq.1 c hc)) (fun c r e => by injection e with e _; subst e; decide)
        rw [List.cons_append, List.append_assoc]
        simp only [valueF]
        rw [if_neg (by simp [hasP]), if_neg (by decide), if_pos trivial]
        have e : x ++ ([39] ++ rest) = x ++ 39 :: rest := rfl
        rw [e, hw.1, hw.2]
        simp [bareF]
      · injection h with _ h
        cases h
    split at h
    · rename_i _ _ _ _ _ hk
      subst hk
      split at h
      · rename_i hmk
        simp only [Bool.and_eq_true, decide_eq_true_eq] at hmk
        obtain ⟨hmk, hl6⟩ := hmk
        unfold makerB at hmk
        simp only [Bool.and_eq_true] at hmk
        obtain ⟨hpl, hcap⟩ := hmk
        unfold plainB at hpl
        simp only [Bool.and_eq_true, List.all_eq_true] at hpl
        have hall := hpl.1
        cases x with
        | nil => simp [capB] at hcap
        | cons c x =>
          simp only [capB] at hcap
          obtain ⟨c1, c2, c3, c4, c5, c6⟩ := cap_let (by simpa using hcap)
          unfold madeF at h
          split at h
          · rename_i h0
            have hargs : argsF (textF n) l = ((argsF (textF n) l).1, 0) := by rw [← h0]
            split at h
            · rename_i hle
              injection h with h _
              subst h
              have hl0 : l = [] := by simpa using hle
              subst hl0
              have hw := while_stop nameB (c :: x) rest hall (fun c r e => (hs c r e).1)
              rw [List.cons_append] at hw ⊢
              simp only [valueF]
              rw [if_neg (by simp [hasP, Ne.symm c2]), if_neg c3, if_neg c4, if_pos c1, hw.1, hw.2]
              unfold consF
              rw [if_neg (by simp [trueT, c5]), if_neg (by simp [falseT, c6]), if_neg (by
                cases rest with
                | nil => simp [hasP]
                | cons d r => simp [hasP, Ne.symm (hs d r rfl).2.2])]
              simp [bareF, bareL]
            · rename_i hle
              injection h with h _
              subst h
              have hl0 : l ≠ [] := by simpa using hle
              have hlen := argsF_len' hargs
              have hjl := join_len_ge 44 (argsF (textF n) l).1
              have hw := while_stop nameB (c :: x) (40 :: (join (argsF (textF n) l).1 [44] ++ 41 :: rest)) hall (fun d r e => by injection e with e _; subst e; decide)
              have hloop := loopF_text n ih l (argsF (textF n) l).1 (40 :: (join (argsF (textF n) l).1 [44] ++ 41 :: rest)).length rest hl hargs hl0 (by simp; omega)
              have e : ((c :: x) ++ [40] ++ join (argsF (textF n) l).1 [44] ++ [41]) ++ rest = (c :: x) ++ 40 :: (join (argsF (textF n) l).1 [44] ++ 41 :: rest) := by simp
              rw [e]
              rw [List.cons_append] at hw ⊢
              simp only [valueF]
              rw [if_neg (by simp [hasP, Ne.symm c2]), if_neg c3, if_neg c4, if_pos c1, hw.1, hw.2]
              unfold consF
              rw [if_neg (by simp [trueT, c5]), if_neg (by simp [falseT, c6]), if_pos (by simp [hasP])]
              simp only [List.drop_succ_cons, List.drop_zero]
              rw [hloop]
              simp [bareF]
          · rename_i h0
            injection h with _ h
            exact absurd h h0
      · injection h with _ h
        cases h
    · injection h with _ h
      cases h

theorem bareL_length : ∀ l : List V, (bareL l).length = l.length
  | [] => rfl
  | x :: r => by simp [bareL, bareL_length r]

theorem argsF_bare (f : V → Bs × Int) (h : ∀ v, f (bareF v) = f v) : ∀ l : List V, argsF f (bareL l) = argsF f l
  | [] => rfl
  | x :: r => by simp only [bareL, argsF, h x, argsF_bare f h r]

theorem textF_bare : ∀ (n : Nat) (v : V), textF n (bareF v) = textF n v
  | 0, v => rfl
  | n + 1, .mk k num x l => by
    have ih := textF_bare n
    have hb := argsF_bare (textF n) ih l
    simp only [bareF]
    split
    · rename_i hk
      rcases hk with rfl | rfl | rfl <;> simp [textF]
    split
    · rename_i _ hk
      subst hk
      simp [textF]
    split
    · rename_i _ _ hk
      subst hk
      have he : (bareL l = []) = (l = []) := by cases l <;> simp [bareL]
      simp [textF, madeF, hb, bareL_length, he]
    · rename_i h1 h2 h3
      simp only [textF]
      have a1 : k ≠ 2 := fun e => h1 (Or.inl e)
      have a2 : k ≠ 3 := fun e => h1 (Or.inr (Or.inl e))
      have a3 : k ≠ 6 := fun e => h1 (Or.inr (Or.inr e))
      rw [if_neg a1, if_neg a2, if_neg a3, if_neg h2, if_neg h3]
      rw [if_neg a1, if_neg a2, if_neg a3, if_neg h2, if_neg h3]

/-- deed.Value reads a text as its value -/
theorem valF_text {v : V} {t : Bs} (hw : wfV v) (h : textF 40 v = (t, 0)) : valF t = (bareF v, 0) := by
  have h1 := valueF_text 40 v t [] hw h stop_nil
  rw [List.append_nil] at h1
  unfold valF
  rw [h1]
  simp only [List.isEmpty_nil, Bool.not_true, Bool.or_false, Bool.false_eq_true, if_false]
  rw [textF_bare, h]
  simp

theorem textF_err : ∀ (n : Nat) (v : V), (textF n v).2 ≠ 0 → (textF n v).1 = []
  | 0, v, _ => rfl
  | n + 1, .mk k num x l, h => by
    simp only [textF] at h ⊢
    split
    · rename_i hk; rw [if_pos hk] at h; simp at h
    rename_i hk; rw [if_neg hk] at h
    split
    · rename_i hk; rw [if_pos hk] at h; simp at h
    rename_i hk; rw [if_neg hk] at h
    split
    · rename_i hk; rw [if_pos hk] at h; simp at h
    rename_i hk; rw [if_neg hk] at h
    split
    · rename_i hk; rw [if_pos hk] at h
      split
      · rename_i hk; rw [if_pos hk] at h; simp at h
      · rfl
    rename_i hk; rw [if_neg hk] at h
    split
    · rename_i hk; rw [if_pos hk] at h
      split
      · rename_i hk; rw [if_pos hk] at h; simp at h
      · rfl
    rename_i hk; rw [if_neg hk] at h
    split
    · rename_i hk; rw [if_pos hk] at h
      split
      · rename_i hk; rw [if_pos hk] at h
        unfold madeF at h ⊢
        split
        · rename_i h0
          rw [if_pos h0] at h
          split
          · rename_i h0; rw [if_pos h0] at h; simp at h
          · rename_i h0; rw [if_neg h0] at h; simp at h
        · rfl
      · rfl
    · rfl

end Ds
end Go.Proofs.YtbfiejgdgdlciaaDoor
