/-
  WALKS OF THE SMALL FUNCTIONS OF package deed: isLetter, plain, quotable, maker, and the three closures of the reader.
-/
import Derived.Test.YtbfiejgdgdlciaaDoorBase
namespace Go.Proofs.YtbfiejgdgdlciaaDoor
open Go.RowKit
open Ds (V Bs)

theorem u8le (a : Nat) (c : UInt8) (ha : a < 256) : decide (UInt8.ofNat a ≤ c) = decide ((a : Int) ≤ (c.toNat : Int)) := by
  have e : (UInt8.ofNat a).toNat = a := by simp; omega
  rw [decide_eq_decide, UInt8.le_iff_toNat_le, e]; omega
theorem leu8 (a : Nat) (c : UInt8) (ha : a < 256) : decide (c ≤ UInt8.ofNat a) = decide ((c.toNat : Int) ≤ (a : Int)) := by
  have e : (UInt8.ofNat a).toNat = a := by simp; omega
  rw [decide_eq_decide, UInt8.le_iff_toNat_le, e]; omega

theorem letB_eq (c : UInt8) : Ds.letB c = ((decide ((97 : Int) ≤ c.toNat) && decide ((c.toNat : Int) ≤ 122)) || (decide ((65 : Int) ≤ c.toNat) && decide ((c.toNat : Int) ≤ 90))) := by
  unfold Ds.letB
  rw [show (97 : UInt8) = UInt8.ofNat 97 from rfl, show (122 : UInt8) = UInt8.ofNat 122 from rfl, show (65 : UInt8) = UInt8.ofNat 65 from rfl, show (90 : UInt8) = UInt8.ofNat 90 from rfl,
    u8le 97 c (by decide), u8le 65 c (by decide), leu8 122 c (by decide), leu8 90 c (by decide)]
  rfl
theorem digB_eq (c : UInt8) : Ds.digB c = (decide ((48 : Int) ≤ c.toNat) && decide ((c.toNat : Int) ≤ 57)) := by
  unfold Ds.digB
  rw [show (48 : UInt8) = UInt8.ofNat 48 from rfl, show (57 : UInt8) = UInt8.ofNat 57 from rfl, u8le 48 c (by decide), leu8 57 c (by decide)]
  rfl

theorem isLetter_calls (c : UInt8) (w : World) :
    Calls Tryd.prog 41 #[.int .u8 (c.toNat : Int)] w fun e w' => e = .returned (.bool (Ds.letB c)) ∧ w = w' := by
  rw [letB_eq]
  have hc := c.toNat_lt
  generalize c.toNat = n at hc ⊢
  by_cases h1 : (97 : Int) ≤ n <;> by_cases h2 : (n : Int) ≤ 122 <;> by_cases h3 : (65 : Int) ≤ n <;> by_cases h4 : (n : Int) ≤ 90 <;>
  first
  | (exfalso; omega)
  | (go_enter Tryd.func41, Tryd.ntmps41
     go_wp2
     go_ret
     simp_all)

theorem noQ_calls (c : UInt8) (w : World) :
    Calls Tryd.prog 40 #[.int .u8 (c.toNat : Int)] w fun e w' => e = .returned (.bool (Ds.noQ c)) ∧ w = w' := by
  have e : Ds.noQ c = ((c.toNat : Int) != 39) := by
    unfold Ds.noQ
    rw [Bool.eq_iff_iff]
    simp [bne_iff_ne, ← UInt8.toNat_inj]
    omega
  rw [e]
  go_enter Tryd.func40, Tryd.ntmps40
  go_wp2
  go_ret
  exact ⟨rfl, rfl⟩

theorem nameB_calls (c : UInt8) (w : World) :
    Calls Tryd.prog 42 #[.int .u8 (c.toNat : Int)] w fun e w' => e = .returned (.bool (Ds.nameB c)) ∧ w = w' := by
  have hl := fun w => isLetter_calls c w
  unfold Ds.nameB
  rw [digB_eq]
  generalize Ds.letB c = bl at hl ⊢
  have hc := c.toNat_lt
  generalize c.toNat = n at hc hl ⊢
  cases bl <;> by_cases h3 : (48 : Int) ≤ n <;> by_cases h4 : (n : Int) ≤ 57 <;>
  first
  | (exfalso; omega)
  | (have HL := Lib.hid hl
     clear hl
     go_enter Tryd.func42, Tryd.ntmps42
     go_wp2_with (go_at_call 41; refine (HL.out _).mono ?_; rintro e w' ⟨rfl, rfl⟩)
     go_ret
     simp_all)

theorem numB_calls (c : UInt8) (w : World) :
    Calls Tryd.prog 53 #[.int .u8 (c.toNat : Int)] w fun e w' => e = .returned (.bool (Ds.numB c)) ∧ w = w' := by
  have e : Ds.numB c = (((c.toNat : Int) == 45) || Ds.digB c) := by
    unfold Ds.numB
    congr 1
    rw [Bool.eq_iff_iff]
    simp [← UInt8.toNat_inj]
    omega
  rw [e, digB_eq]
  have hc := c.toNat_lt
  generalize c.toNat = n at hc ⊢
  by_cases h0 : (n : Int) = 45 <;> by_cases h3 : (48 : Int) ≤ n <;> by_cases h4 : (n : Int) ≤ 57 <;>
  first
  | (exfalso; omega)
  | (go_enter Tryd.func53, Tryd.ntmps53
     go_wp2
     go_ret
     simp_all)

theorem all_take_succ (p : UInt8 → Bool) (l : Bs) (k : Nat) (h : k < l.length) : (l.take (k + 1)).all p = ((l.take k).all p && p l[k]) := by
  rw [List.take_succ_eq_append_getElem h, List.all_append]; simp


theorem getElem_data (s : ByteArray) (k : Nat) (h : k < s.size) : s.data.toList[k]'(by simpa using h) = s[k] := rfl
theorem all_take_false (p : UInt8 → Bool) (l : Bs) (k : Nat) (h : k < l.length) (hp : p l[k] = false) : l.all p = false := by
  rw [List.all_eq_false]
  exact ⟨l[k], List.getElem_mem h, by simp [hp]⟩
theorem all_take_true (p : UInt8 → Bool) (l : Bs) (k : Nat) (h : k < l.length) (ha : (l.take k).all p = true) (hp : p l[k] = true) : (l.take (k + 1)).all p = true := by
  rw [all_take_succ p l k h, ha, hp]; rfl

theorem quoB_eq (c : UInt8) : Ds.quoB c = (decide ((32 : Int) ≤ c.toNat) && !((c.toNat : Int) == 39)) := by
  unfold Ds.quoB
  rw [Bool.eq_iff_iff]
  simp [← UInt8.toNat_inj, UInt8.le_iff_toNat_le]
  omega

theorem bool_ret {a b : Bool} (h : a = b) : Ending.returned (.bool a) = .returned (.bool b) := by rw [h]

set_option maxHeartbeats 400000 in
theorem quotable_calls (s : ByteArray) (hs : s.size ≤ maxLen) (w : World) :
    Calls Tryd.prog 34 #[.string s] w fun e w' => e = .returned (.bool (Ds.quotB s.data.toList)) ∧ w = w' := by
  unfold maxLen at hs
  go_enter Tryd.func34, Tryd.ntmps34
  go_wp2
  go_loop [3, 6] (fun _ i => ∃ k : Nat, k ≤ s.size ∧ i = .int .i64 k ∧ (s.data.toList.take k).all Ds.quoB = true) (fun _ i => s.size - (intOf i).toNat)
  case atStart => exact ⟨0, Nat.zero_le _, rfl, rfl⟩
  case round =>
    obtain ⟨k, hk, rfl, ha⟩ := hrel
    have HA := Lib.hid ha
    clear ha
    by_cases hlt : k < s.size
    · by_cases hq : Ds.quoB s[k] = true
      · have HQ := Lib.hid hq
        rw [quoB_eq] at hq
        simp only [Bool.and_eq_true, decide_eq_true_eq, Bool.not_eq_true'] at hq
        obtain ⟨hq1, hq2⟩ := hq
        go_wp2
        go_round
        case rel => exact ⟨k + 1, by omega, by go_num, all_take_true _ _ _ (by simpa using hlt) HA.out HQ.out⟩
        case measure => simp [intOf]; omega
      · have HQ := Lib.hid hq
        rw [quoB_eq] at hq
        have hfin : Ds.quotB s.data.toList = false := by
          unfold Ds.quotB
          rw [all_take_false _ _ k (by simpa using hlt) (by rw [getElem_data]; simpa using HQ.out)]
          rfl
        have HF := Lib.hid hfin
        clear hfin
        by_cases hq1 : (32 : Int) ≤ s[k].toNat
        · have hq2 : ((s[k].toNat : Int) == 39) = true := by simpa [hq1] using hq
          clear hq
          go_wp2
          go_ret
          exact ⟨bool_ret HF.out.symm, rfl⟩
        · have hq2 : (s[k].toNat : Int) < 32 := by omega
          clear hq
          go_wp2
          go_ret
          exact ⟨bool_ret HF.out.symm, rfl⟩
    · have hfin : Ds.quotB s.data.toList = decide ((s.size : Int) ≤ 64) := by
        unfold Ds.quotB
        have := HA.out
        rw [List.take_of_length_le (by simp; omega)] at this
        rw [this, Bool.true_and, decide_eq_decide]
        simp; omega
      have HF := Lib.hid hfin
      clear hfin
      go_wp2
      all_goals (go_ret; exact ⟨bool_ret HF.out.symm, rfl⟩)

theorem toList_data (s : ByteArray) : s.toList = s.data.toList := Go.ByteArray.toList_eq s
theorem plain_fin (s : ByteArray) (h : s.data.toList.all Ds.nameB = true) : Ds.plainB s.data.toList = (!s.toList.isEmpty && decide ((s.size : Int) ≤ 16)) := by
  unfold Ds.plainB
  rw [h, Bool.true_and, toList_data]
  congr 1
  rw [decide_eq_decide]
  simp; omega

set_option maxHeartbeats 400000 in
theorem plain_calls (s : ByteArray) (hs : s.size ≤ maxLen) (w : World) :
    Calls Tryd.prog 24 #[.string s] w fun e w' => e = .returned (.bool (Ds.plainB s.data.toList)) ∧ w = w' := by
  unfold maxLen at hs
  go_enter Tryd.func24, Tryd.ntmps24
  go_wp2
  go_loop [3, 4, 7] (fun _ _ i => ∃ k : Nat, k ≤ s.size ∧ i = .int .i64 k ∧ (s.data.toList.take k).all Ds.nameB = true) (fun _ _ i => s.size - (intOf i).toNat)
  case atStart => exact ⟨0, Nat.zero_le _, rfl, rfl⟩
  case round =>
    obtain ⟨k, hk, rfl, ha⟩ := hrel
    have HA := Lib.hid ha
    clear ha
    by_cases hlt : k < s.size
    · have hl := fun w => isLetter_calls s[k] w
      by_cases hq : Ds.nameB s[k] = true
      · have HQ := Lib.hid hq
        unfold Ds.nameB at hq
        rw [digB_eq] at hq
        generalize Ds.letB s[k] = bl at hl hq
        have HL := Lib.hid hl
        clear hl
        cases bl
        · simp only [Bool.false_or, Bool.and_eq_true, decide_eq_true_eq] at hq
          obtain ⟨hq1, hq2⟩ := hq
          go_wp2_with (go_at_call 41; refine (HL.out _).mono ?_; rintro e w' ⟨rfl, rfl⟩)
          go_round
          case rel => exact ⟨k + 1, by omega, by go_num, all_take_true _ _ _ (by simpa using hlt) HA.out HQ.out⟩
          case measure => simp [intOf]; omega
        · clear hq
          go_wp2_with (go_at_call 41; refine (HL.out _).mono ?_; rintro e w' ⟨rfl, rfl⟩)
          go_round
          case rel => exact ⟨k + 1, by omega, by go_num, all_take_true _ _ _ (by simpa using hlt) HA.out HQ.out⟩
          case measure => simp [intOf]; omega
      · have hfin : Ds.plainB s.data.toList = false := by
          unfold Ds.plainB
          rw [all_take_false _ _ k (by simpa using hlt) (by rw [getElem_data]; simpa using hq)]
          rfl
        have HF := Lib.hid hfin
        clear hfin
        unfold Ds.nameB at hq
        rw [digB_eq] at hq
        generalize Ds.letB s[k] = bl at hl hq
        have HL := Lib.hid hl
        clear hl
        cases bl
        · by_cases hq1 : (48 : Int) ≤ s[k].toNat
          · have hq2 : (57 : Int) < s[k].toNat := by simpa [hq1] using hq
            clear hq
            go_wp2_with (go_at_call 41; refine (HL.out _).mono ?_; rintro e w' ⟨rfl, rfl⟩)
            go_ret
            exact ⟨bool_ret HF.out.symm, rfl⟩
          · have hq2 : (s[k].toNat : Int) < 48 := by omega
            clear hq
            go_wp2_with (go_at_call 41; refine (HL.out _).mono ?_; rintro e w' ⟨rfl, rfl⟩)
            go_ret
            exact ⟨bool_ret HF.out.symm, rfl⟩
        · simp at hq
    · have hfin : Ds.plainB s.data.toList = (!s.toList.isEmpty && decide ((s.size : Int) ≤ 16)) := by
        have := HA.out
        rw [List.take_of_length_le (by simp; omega)] at this
        exact plain_fin s this
      have HF := Lib.hid hfin
      clear hfin
      go_wp2_with fail
      · have he : s.toList = [] := by assumption
        go_ret
        exact ⟨bool_ret (by rw [HF.out, he]; rfl), rfl⟩
      · go_ret
        exact ⟨bool_ret HF.out.symm, rfl⟩

theorem maker_head (s : ByteArray) (h : 0 < s.size) : Ds.capB s.data.toList = (decide ((65 : Int) ≤ s[0].toNat) && decide ((s[0].toNat : Int) ≤ 90)) := by
  have e : s.data.toList = s[0] :: s.data.toList.tail := by
    have hl : 0 < s.data.toList.length := by simpa using h
    conv => lhs; rw [← List.drop_zero (l := s.data.toList), List.drop_eq_getElem_cons hl]
    rw [getElem_data s 0 h]
    simp
  rw [e]
  show (decide ((65 : UInt8) ≤ s[0]) && decide (s[0] ≤ (90 : UInt8))) = _
  rw [show (65 : UInt8) = UInt8.ofNat 65 from rfl, show (90 : UInt8) = UInt8.ofNat 90 from rfl, u8le 65 _ (by decide), leu8 90 _ (by decide)]
  rfl

set_option maxHeartbeats 400000 in
theorem maker_calls (s : ByteArray) (hs : s.size ≤ maxLen) (w : World) :
    Calls Tryd.prog 35 #[.string s] w fun e w' => e = .returned (.bool (Ds.makerB s.data.toList)) ∧ w = w' := by
  have hl := fun w => plain_calls s hs w
  unfold maxLen at hs
  unfold Ds.makerB
  have hne : Ds.plainB s.data.toList = true → 0 < s.size := by
    intro h
    unfold Ds.plainB at h
    simp only [Bool.and_eq_true, Bool.not_eq_true', List.isEmpty_eq_false_iff, ne_eq] at h
    have := List.length_pos_iff.2 h.2.1
    simpa using this
  generalize Ds.plainB s.data.toList = bl at hl hne ⊢
  have HL := Lib.hid hl
  clear hl
  cases bl
  · clear hne
    go_enter Tryd.func35, Tryd.ntmps35
    go_wp2_with (go_at_call 24; refine (HL.out _).mono ?_; rintro e w' ⟨rfl, rfl⟩)
    go_ret
    exact ⟨rfl, rfl⟩
  · have h0 := hne rfl
    clear hne
    rw [maker_head s h0]
    by_cases h1 : (65 : Int) ≤ s[0].toNat
    · go_enter Tryd.func35, Tryd.ntmps35
      go_wp2_with (go_at_call 24; refine (HL.out _).mono ?_; rintro e w' ⟨rfl, rfl⟩)
      all_goals (go_ret; exact ⟨bool_ret (by simp [h1]), rfl⟩)
    · go_enter Tryd.func35, Tryd.ntmps35
      go_wp2_with (go_at_call 24; refine (HL.out _).mono ?_; rintro e w' ⟨rfl, rfl⟩)
      all_goals (go_ret; exact ⟨bool_ret (by simp; omega), rfl⟩)
end Go.Proofs.YtbfiejgdgdlciaaDoor
