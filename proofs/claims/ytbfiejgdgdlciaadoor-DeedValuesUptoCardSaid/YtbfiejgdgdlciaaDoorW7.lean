/-
  THE READER's SMALL METHODS: take, while, number, call by call.
-/
import Derived.Test.YtbfiejgdgdlciaaDoorW4
namespace Go.Proofs.YtbfiejgdgdlciaaDoor
open Go.RowKit
open Ds (V Bs D)

/-- the reader in block b: what is left, and whether it is bad -/
def Rd (w : World) (b : Nat) (r : Bs) (bad : Bool) : Prop := Blk w b 54 #[.string ⟨r.toArray⟩, .bool bad]

theorem Rd.rest {w : World} {b : Nat} {r : Bs} {bad : Bool} (h : Rd w b r bad) (r' : Bs) : Rd (w.setCell ⟨b, 0, none⟩ (.string ⟨r'.toArray⟩)) b r' bad := Blk.set_ h 0 _
theorem Rd.flag {w : World} {b : Nat} {r : Bs} {bad : Bool} (h : Rd w b r bad) (bad' : Bool) : Rd (w.setCell ⟨b, 1, none⟩ (.bool bad')) b r bad' := Blk.set_ h 1 _
theorem grown_set (w : World) (b i : Nat) (u : Value) : w.grownBy (w.setCell ⟨b, i, none⟩ u) (some b) :=
  ⟨rfl, rfl, rfl, by simp [World.setCell], fun k _ hne => Below.heap_setCell _ _ _ _ (fun e => hne (by rw [e]))⟩

theorem extract_from (r : Bs) (n : Nat) : (⟨r.toArray⟩ : ByteArray).extract n r.length = ⟨(r.drop n).toArray⟩ := by
  have h := Lib.extract_to_end ⟨r.toArray⟩ n
  have e : (⟨r.toArray⟩ : ByteArray).size = r.length := by simp [ByteArray.size]
  rw [e] at h
  exact of_data h
theorem extract_upto (r : Bs) (n : Nat) : (⟨r.toArray⟩ : ByteArray).extract 0 n = ⟨(r.take n).toArray⟩ := of_data (Lib.extract_from_zero ⟨r.toArray⟩ n)

theorem hasP_len {p r : Bs} (h : Ds.hasP p r = true) : p.length ≤ r.length := by
  unfold Ds.hasP at h
  exact (List.isPrefixOf_iff_prefix.1 h).length_le

set_option maxHeartbeats 400000 in
theorem take_yes (b : Nat) (p r : Bs) (bad : Bool) (w : World) (h : Rd w b r bad) (hp : Ds.hasP p r = true) (_hr : r.length ≤ 9223372036854775807) :
    Calls Tryd.prog 37 #[.pointer (some ⟨b, 0, none⟩), .string ⟨p.toArray⟩] w fun e w' => e = .returned (.bool true) ∧ Rd w' b (r.drop p.length) bad ∧ w.grownBy w' (some b) := by
  have hl := hasP_len hp
  have hc := fun W => hasPrefix_calls ⟨r.toArray⟩ ⟨p.toArray⟩ W
  simp only [hp] at hc
  have k0 : w.cell? ⟨b, 0, none⟩ = some (.string ⟨r.toArray⟩) := h.cell 0
  have f0 : w.frozen? ⟨b, 0, none⟩ = false := h.frozen 0
  have HC := Lib.hid hc
  have HH := Lib.hid h
  clear hc h hp
  go_enter Tryd.func37, Tryd.ntmps37
  go_wp2_with (go_at_call 52; refine (HC.out _).mono ?_; rintro e w9 ⟨rfl, rfl⟩)
  go_ret
  exact ⟨rfl, by rw [extract_from]; exact HH.out.rest _, by rw [extract_from]; exact grown_set w b 0 _⟩

set_option maxHeartbeats 400000 in
theorem take_no (b : Nat) (p r : Bs) (bad : Bool) (w : World) (h : Rd w b r bad) (hp : Ds.hasP p r = false) :
    Calls Tryd.prog 37 #[.pointer (some ⟨b, 0, none⟩), .string ⟨p.toArray⟩] w fun e w' => e = .returned (.bool false) ∧ w = w' := by
  have hc := fun W => hasPrefix_calls ⟨r.toArray⟩ ⟨p.toArray⟩ W
  simp only [hp] at hc
  have k0 : w.cell? ⟨b, 0, none⟩ = some (.string ⟨r.toArray⟩) := h.cell 0
  have HC := Lib.hid hc
  clear hc h hp
  go_enter Tryd.func37, Tryd.ntmps37
  go_wp2_with (go_at_call 52; refine (HC.out _).mono ?_; rintro e w9 ⟨rfl, rfl⟩)
  go_ret
  exact ⟨rfl, rfl⟩

theorem while_eq (P : UInt8 → Bool) : ∀ (r : Bs) (k : Nat), k ≤ r.length → (r.take k).all P = true → (k = r.length ∨ ∃ h : k < r.length, P r[k] = false) → r.takeWhile P = r.take k ∧ r.dropWhile P = r.drop k
  | [], k, hk, _, _ => by
    have : k = 0 := by simpa using hk
    subst this
    simp
  | c :: r, 0, _, _, hs => by
    rcases hs with hs | ⟨_, hs⟩
    · simp at hs
    · simp only [List.getElem_cons_zero] at hs
      simp [hs]
  | c :: r, k + 1, hk, ha, hs => by
    simp only [List.take_succ_cons, List.all_cons, Bool.and_eq_true] at ha
    have ih := while_eq P r k (by simpa using hk) ha.2 (by
      rcases hs with hs | ⟨h, hs⟩
      · left; simpa using hs
      · right; exact ⟨by simpa using h, by simpa using hs⟩)
    simp [ha.1, ih.1, ih.2]

set_option maxHeartbeats 400000 in
theorem while_40 (b : Nat) (r : Bs) (bad : Bool) (w : World) (h : Rd w b r bad) (hr : r.length ≤ 9223372036854775806) :
    Calls Tryd.prog 39 #[.pointer (some ⟨b, 0, none⟩), .func (.func 40) #[] #[]] w fun e w' => e = .returned (.string ⟨(r.takeWhile Ds.noQ).toArray⟩) ∧ Rd w' b (r.dropWhile Ds.noQ) bad ∧ w.grownBy w' (some b) := by
  have k0 : w.cell? ⟨b, 0, none⟩ = some (.string ⟨r.toArray⟩) := h.cell 0
  have f0 : w.frozen? ⟨b, 0, none⟩ = false := h.frozen 0
  have HH := Lib.hid h
  clear h
  go_enter Tryd.func39, Tryd.ntmps39
  go_wp2_with fail
  go_loop [5] (fun n => ∃ k : Nat, k ≤ r.length ∧ n = .int .i64 k ∧ Hid ((r.take k).all Ds.noQ = true)) (fun n => r.length - (intOf n).toNat)
  case atStart => exact ⟨0, Nat.zero_le _, rfl, Lib.hid rfl⟩
  case round =>
    obtain ⟨k, hk, rfl, HA⟩ := hrel
    by_cases hlt : k < r.length
    · have hc := fun W => noQ_calls r[k] W
      by_cases hq : Ds.noQ r[k] = true
      · rw [hq] at hc
        have HQ := Lib.hid hq
        have HC := Lib.hid hc
        clear hq hc
        go_wp2_with (go_at_call 40; refine (HC.out _).mono ?_; rintro e w9 ⟨rfl, rfl⟩)
        go_round
        case rel => exact ⟨k + 1, by omega, by go_num, Lib.hid (all_take_true _ _ _ hlt HA.out HQ.out)⟩
        case measure => simp [intOf]; omega
      · have hq' : Ds.noQ r[k] = false := by simpa using hq
        rw [hq'] at hc
        have HE := Lib.hid (while_eq _ r k hk HA.out (Or.inr ⟨hlt, hq'⟩))
        have HC := Lib.hid hc
        clear hq hq' hc
        go_wp2_with (go_at_call 40; refine (HC.out _).mono ?_; rintro e w9 ⟨rfl, rfl⟩)
        go_ret
        exact ⟨by rw [HE.out.1, ← extract_upto]; rfl, by rw [HE.out.2, extract_from]; exact HH.out.rest _, by rw [extract_from]; exact grown_set w b 0 _⟩
    · have hkl : k = r.length := by omega
      have HE := Lib.hid (while_eq _ r k hk HA.out (Or.inl hkl))
      subst hkl
      go_wp2_with fail
      go_ret
      exact ⟨by rw [HE.out.1, ← extract_upto]; rfl, by rw [HE.out.2, List.drop_length]; exact HH.out.rest [], grown_set w b 0 _⟩

set_option maxHeartbeats 400000 in
theorem while_42 (b : Nat) (r : Bs) (bad : Bool) (w : World) (h : Rd w b r bad) (hr : r.length ≤ 9223372036854775806) :
    Calls Tryd.prog 39 #[.pointer (some ⟨b, 0, none⟩), .func (.func 42) #[] #[]] w fun e w' => e = .returned (.string ⟨(r.takeWhile Ds.nameB).toArray⟩) ∧ Rd w' b (r.dropWhile Ds.nameB) bad ∧ w.grownBy w' (some b) := by
  have k0 : w.cell? ⟨b, 0, none⟩ = some (.string ⟨r.toArray⟩) := h.cell 0
  have f0 : w.frozen? ⟨b, 0, none⟩ = false := h.frozen 0
  have HH := Lib.hid h
  clear h
  go_enter Tryd.func39, Tryd.ntmps39
  go_wp2_with fail
  go_loop [5] (fun n => ∃ k : Nat, k ≤ r.length ∧ n = .int .i64 k ∧ Hid ((r.take k).all Ds.nameB = true)) (fun n => r.length - (intOf n).toNat)
  case atStart => exact ⟨0, Nat.zero_le _, rfl, Lib.hid rfl⟩
  case round =>
    obtain ⟨k, hk, rfl, HA⟩ := hrel
    by_cases hlt : k < r.length
    · have hc := fun W => nameB_calls r[k] W
      by_cases hq : Ds.nameB r[k] = true
      · rw [hq] at hc
        have HQ := Lib.hid hq
        have HC := Lib.hid hc
        clear hq hc
        go_wp2_with (go_at_call 42; refine (HC.out _).mono ?_; rintro e w9 ⟨rfl, rfl⟩)
        go_round
        case rel => exact ⟨k + 1, by omega, by go_num, Lib.hid (all_take_true _ _ _ hlt HA.out HQ.out)⟩
        case measure => simp [intOf]; omega
      · have hq' : Ds.nameB r[k] = false := by simpa using hq
        rw [hq'] at hc
        have HE := Lib.hid (while_eq _ r k hk HA.out (Or.inr ⟨hlt, hq'⟩))
        have HC := Lib.hid hc
        clear hq hq' hc
        go_wp2_with (go_at_call 42; refine (HC.out _).mono ?_; rintro e w9 ⟨rfl, rfl⟩)
        go_ret
        exact ⟨by rw [HE.out.1, ← extract_upto]; rfl, by rw [HE.out.2, extract_from]; exact HH.out.rest _, by rw [extract_from]; exact grown_set w b 0 _⟩
    · have hkl : k = r.length := by omega
      have HE := Lib.hid (while_eq _ r k hk HA.out (Or.inl hkl))
      subst hkl
      go_wp2_with fail
      go_ret
      exact ⟨by rw [HE.out.1, ← extract_upto]; rfl, by rw [HE.out.2, List.drop_length]; exact HH.out.rest [], grown_set w b 0 _⟩

set_option maxHeartbeats 400000 in
theorem while_53 (b : Nat) (r : Bs) (bad : Bool) (w : World) (h : Rd w b r bad) (hr : r.length ≤ 9223372036854775806) :
    Calls Tryd.prog 39 #[.pointer (some ⟨b, 0, none⟩), .func (.func 53) #[] #[]] w fun e w' => e = .returned (.string ⟨(r.takeWhile Ds.numB).toArray⟩) ∧ Rd w' b (r.dropWhile Ds.numB) bad ∧ w.grownBy w' (some b) := by
  have k0 : w.cell? ⟨b, 0, none⟩ = some (.string ⟨r.toArray⟩) := h.cell 0
  have f0 : w.frozen? ⟨b, 0, none⟩ = false := h.frozen 0
  have HH := Lib.hid h
  clear h
  go_enter Tryd.func39, Tryd.ntmps39
  go_wp2_with fail
  go_loop [5] (fun n => ∃ k : Nat, k ≤ r.length ∧ n = .int .i64 k ∧ Hid ((r.take k).all Ds.numB = true)) (fun n => r.length - (intOf n).toNat)
  case atStart => exact ⟨0, Nat.zero_le _, rfl, Lib.hid rfl⟩
  case round =>
    obtain ⟨k, hk, rfl, HA⟩ := hrel
    by_cases hlt : k < r.length
    · have hc := fun W => numB_calls r[k] W
      by_cases hq : Ds.numB r[k] = true
      · rw [hq] at hc
        have HQ := Lib.hid hq
        have HC := Lib.hid hc
        clear hq hc
        go_wp2_with (go_at_call 53; refine (HC.out _).mono ?_; rintro e w9 ⟨rfl, rfl⟩)
        go_round
        case rel => exact ⟨k + 1, by omega, by go_num, Lib.hid (all_take_true _ _ _ hlt HA.out HQ.out)⟩
        case measure => simp [intOf]; omega
      · have hq' : Ds.numB r[k] = false := by simpa using hq
        rw [hq'] at hc
        have HE := Lib.hid (while_eq _ r k hk HA.out (Or.inr ⟨hlt, hq'⟩))
        have HC := Lib.hid hc
        clear hq hq' hc
        go_wp2_with (go_at_call 53; refine (HC.out _).mono ?_; rintro e w9 ⟨rfl, rfl⟩)
        go_ret
        exact ⟨by rw [HE.out.1, ← extract_upto]; rfl, by rw [HE.out.2, extract_from]; exact HH.out.rest _, by rw [extract_from]; exact grown_set w b 0 _⟩
    · have hkl : k = r.length := by omega
      have HE := Lib.hid (while_eq _ r k hk HA.out (Or.inl hkl))
      subst hkl
      go_wp2_with fail
      go_ret
      exact ⟨by rw [HE.out.1, ← extract_upto]; rfl, by rw [HE.out.2, List.drop_length]; exact HH.out.rest [], grown_set w b 0 _⟩

theorem atoi_cases (s : Bs) : (∃ n, Ds.atoiN s = (n, false)) ∨ (∃ n, Ds.atoiN s = (n, true)) := by
  rcases h : Ds.atoiN s with ⟨n, e⟩
  cases e
  · exact Or.inl ⟨n, rfl⟩
  · exact Or.inr ⟨n, rfl⟩

theorem atoiN_in (s : Bs) : -9223372036854775808 ≤ (Ds.atoiN s).1 ∧ (Ds.atoiN s).1 ≤ 9223372036854775807 := by
  unfold Ds.atoiN
  rcases h : Lib.atoiAll s with v | _ | _
  · exact Lib.atoiAll_bounds h
  · simp
  · have := Lib.atoiSat_bounds s; simp only; omega

end Go.Proofs.YtbfiejgdgdlciaaDoor
