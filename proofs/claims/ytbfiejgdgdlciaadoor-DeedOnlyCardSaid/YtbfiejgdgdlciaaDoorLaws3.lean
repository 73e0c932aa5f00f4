/-
  What a line's words add up to, and that a deed that is read fits.
-/
import Derived.Test.YtbfiejgdgdlciaaDoorW15
namespace Go.Proofs.YtbfiejgdgdlciaaDoor
open Ds (V Bs D)

namespace Ds
theorem splitF_lsum : ∀ (s : Bs) (done : List Bs) (cur : Bs) (q : Bool), lsum (splitF done cur q s) = lsum done + cur.length + 1 + s.length
  | [], done, cur, q => by
    simp only [splitF, lsum_append, lsum, List.length_nil]; omega
  | c :: r, done, cur, q => by
    simp only [splitF]
    split
    · rw [splitF_lsum r, lsum_append]
      simp only [lsum, List.length_nil, List.length_cons]; omega
    · rw [splitF_lsum r]
      simp only [List.length_append, List.length_cons, List.length_nil]; omega
theorem lsum_mem : ∀ {l : List Bs} {x : Bs}, x ∈ l → x.length + 1 ≤ lsum l
  | y :: r, x, h => by
    rcases List.mem_cons.1 h with rfl | h
    · simp only [lsum]; omega
    · have := lsum_mem h
      simp only [lsum]; omega
theorem lsum_count : ∀ (l : List Bs), l.length ≤ lsum l
  | [] => Nat.le_refl _
  | y :: r => by
    have := lsum_count r
    simp only [lsum, List.length_cons]; omega
theorem lsum_drop : ∀ (l : List Bs) (n : Nat), lsum (l.drop n) ≤ lsum l
  | [], n => by simp
  | y :: r, 0 => Nat.le_refl _
  | y :: r, n + 1 => by
    have := lsum_drop r n
    simp only [List.drop_succ_cons, lsum]; omega

theorem valF_fst {s : Bs} (h : (valF s).2 = 0) : (valF s).1 = (valueF 40 s false).1 := by
  unfold valF at h ⊢
  split
  · rename_i h1; rw [if_pos h1] at h; simp at h
  · rename_i h1
    rw [if_neg h1] at h
    split
    · rfl
    · rename_i h2; rw [if_neg h2] at h; simp at h

theorem argsP_fit : ∀ (l : List Bs) (xs : List V), argsP l = some xs → lsum l ≤ 16777217 → wfL xs ∧ nodesL xs ≤ lsum l
  | [], xs, h, _ => by
    simp only [argsP, Option.some.injEq] at h
    subst h
    exact ⟨trivial, Nat.zero_le _⟩
  | s :: r, xs, h, hl => by
    simp only [argsP] at h
    split at h
    · rename_i h0
      simp only [lsum] at hl ⊢
      cases hr : argsP r with
      | none => rw [hr] at h; simp at h
      | some ys =>
        rw [hr] at h
        simp only [Option.map_some, Option.some.injEq] at h
        subst h
        have ih := argsP_fit r ys hr (by omega)
        have h1 := valueF_wf 40 s false (by omega)
        have h2 := valueF_nodes 40 s false
        rw [valF_fst h0]
        exact ⟨⟨h1, ih.1⟩, by simp only [nodesL]; omega⟩
    · cases h

theorem moreP_fit {k a b : Int} {t : Bs} {l : List Bs} {d : D} (h : moreP k a b t [] l = some d) (hl : lsum l ≤ 16777217) : d.kind = k ∧ d.a = a ∧ d.b = b ∧ d.text = t ∧ wfL d.args ∧ nodesL d.args ≤ lsum l := by
  unfold moreP at h
  cases hr : argsP l with
  | none => rw [hr] at h; simp at h
  | some ys =>
    rw [hr] at h
    simp only [Option.map_some, List.nil_append, Option.some.injEq] at h
    subst h
    have := argsP_fit l ys hr hl
    exact ⟨rfl, rfl, rfl, rfl, this.1, this.2⟩

theorem textP_fit {k a b : Int} {l : List Bs} {d : D} (h : textP k a b l = some d) (hl : lsum l ≤ 16777217) : d.kind = k ∧ d.a = a ∧ d.b = b ∧ d.text.length ≤ lsum l ∧ wfL d.args ∧ nodesL d.args ≤ lsum l := by
  rw [textP_eq] at h
  split at h
  · cases l with
    | nil => cases h
    | cons t r =>
      simp only [lsum] at hl ⊢
      obtain ⟨h1, h2, h3, h4, h5, h6⟩ := moreP_fit h (by omega)
      exact ⟨h1, h2, h3, by rw [h4]; omega, h5, by omega⟩
  · obtain ⟨h1, h2, h3, h4, h5, h6⟩ := moreP_fit h hl
    exact ⟨h1, h2, h3, by rw [h4]; simp, h5, h6⟩

theorem numP_fit {r : List Bs} {k : Int} (hl : lsum r ≤ 16777217) : ∀ (m i : Nat) (a b : Int) (d : D), inInt a → inInt b → numP r k m i a b = some d →
    d.kind = k ∧ inInt d.a ∧ inInt d.b ∧ d.text.length ≤ lsum r ∧ wfL d.args ∧ nodesL d.args ≤ lsum r
  | 0, i, a, b, d, ha, hb, h => by
    simp only [numP] at h
    have hd := lsum_drop r i
    obtain ⟨h1, h2, h3, h4, h5, h6⟩ := textP_fit h (by omega)
    exact ⟨h1, by rw [h2]; exact ha, by rw [h3]; exact hb, by omega, h5, by omega⟩
  | m + 1, i, a, b, d, ha, hb, h => by
    simp only [numP] at h
    split at h
    · cases h
    · refine numP_fit hl m (i + 1) _ _ d ?_ ?_ h
      · split
        · exact atoiN_in _
        · exact ha
      · split
        · exact hb
        · exact atoiN_in _

theorem idxF_in (w : Bs) : ∀ (l : List Bs) (i : Nat), 0 ≤ idxF w i l ∧ idxF w i l ≤ (i + l.length : Nat)
  | [], i => by simp only [idxF, List.length_nil]; omega
  | x :: r, i => by
    have := idxF_in w r (i + 1)
    simp only [idxF, List.length_cons]
    split
    · omega
    · omega

theorem parseF_fit {l : List Bs} {d : D} (h : parseF l = some d) (hl : lsum l ≤ 16777217) : Fit d := by
  cases l with
  | nil => cases h
  | cons t r =>
    rw [parseF_cons] at h
    simp only [lsum] at hl
    split at h
    · cases h
    · obtain ⟨h1, h2, h3, h4, h5, h6⟩ := numP_fit (by omega) _ _ _ _ _ (by unfold inInt; omega) (by unfold inInt; omega) h
      have hk := idxF_in t wordsL 0
      have hw : wordsL.length = 13 := rfl
      exact ⟨h2, h3, by rw [h1]; unfold kindF inInt; omega, by omega, h5, by omega⟩
end Ds
end Go.Proofs.YtbfiejgdgdlciaaDoor
