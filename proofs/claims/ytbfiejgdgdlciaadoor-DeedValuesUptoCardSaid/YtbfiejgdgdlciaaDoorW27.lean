/-
  roadkeep1.bareValue: what it returns reads as the bare value.
-/
import Derived.Test.YtbfiejgdgdlciaaDoorW11
namespace Go.Proofs.YtbfiejgdgdlciaaDoor
open Go.RowKit
open Ds (V Bs D)

/-- what bareValue does with a value -/
def BareSaid (x : V) : Prop := ∀ (lo : Nat → Prop) (A : Option Addr) (cap : Nat) (w : World), RL w lo A 0 x.args → 8 ≤ w.heap.size →
  Calls Tryd.prog 12 #[.agg #[.int .i64 x.kind, .int .i64 x.num, .string ⟨x.text.toArray⟩, .slice A x.args.length cap]] w
    fun e w' => ∃ (A9 : Option Addr) (cap9 : Nat), e = .returned (.agg #[.int .i64 (Ds.bareF x).kind, .int .i64 (Ds.bareF x).num, .string ⟨(Ds.bareF x).text.toArray⟩, .slice A9 (Ds.bareF x).args.length cap9]) ∧
      RV w' (fun k => w.heap.size ≤ k) (Ds.bareF x) (.int .i64 (Ds.bareF x).kind) (.int .i64 (Ds.bareF x).num) (.string ⟨(Ds.bareF x).text.toArray⟩) (.slice A9 (Ds.bareF x).args.length cap9) ∧ Below w.heap.size w w'

/-- a leaf: the kind, a number, a text, no arguments -/
def LeafSaid (k m : Int) (t : Bs) (n2 : Int) (t2 : Bs) : Prop := ∀ (n : Nat) (A : Option Addr) (cap : Nat) (w : World),
  Calls Tryd.prog 12 #[.agg #[.int .i64 k, .int .i64 m, .string ⟨t.toArray⟩, .slice A n cap]] w fun e w' => e = .returned (.agg #[.int .i64 k, .int .i64 n2, .string ⟨t2.toArray⟩, .slice none 0 0]) ∧ Below w.heap.size w w'

theorem three_allocs (w : World) (a b c : Obj) : Below w.heap.size w (((w.alloc a).alloc b).alloc c) :=
  (((Below.refl _ _).alloc (Nat.le_refl _) _).alloc (by simp) _).alloc (by simp; omega) _

set_option maxRecDepth 100000 in
set_option maxHeartbeats 400000 in
theorem leaf2 (m : Int) (t : Bs) : LeafSaid 2 m t m [] := by
  intro n A cap w
  go_enter Tryd.func12, Tryd.ntmps12
  go_wp2_with fail
  exact bodyPost_ret (v := .agg #[.int .i64 2, .int .i64 m, .string ⟨#[]⟩, .slice none 0 0]) (by simp [results, Tryd.results12, go_sem]) rfl ⟨rfl, three_allocs _ _ _ _⟩
set_option maxRecDepth 100000 in
set_option maxHeartbeats 400000 in
theorem leaf3 (m : Int) (t : Bs) : LeafSaid 3 m t m [] := by
  intro n A cap w
  go_enter Tryd.func12, Tryd.ntmps12
  go_wp2_with fail
  exact bodyPost_ret (v := .agg #[.int .i64 3, .int .i64 m, .string ⟨#[]⟩, .slice none 0 0]) (by simp [results, Tryd.results12, go_sem]) rfl ⟨rfl, three_allocs _ _ _ _⟩
set_option maxRecDepth 100000 in
set_option maxHeartbeats 400000 in
theorem leaf6 (m : Int) (t : Bs) : LeafSaid 6 m t m [] := by
  intro n A cap w
  go_enter Tryd.func12, Tryd.ntmps12
  go_wp2_with fail
  exact bodyPost_ret (v := .agg #[.int .i64 6, .int .i64 m, .string ⟨#[]⟩, .slice none 0 0]) (by simp [results, Tryd.results12, go_sem]) rfl ⟨rfl, three_allocs _ _ _ _⟩
set_option maxRecDepth 100000 in
set_option maxHeartbeats 400000 in
theorem leaf4 (m : Int) (t : Bs) : LeafSaid 4 m t 0 t := by
  intro n A cap w
  go_enter Tryd.func12, Tryd.ntmps12
  go_wp2_with fail
  exact bodyPost_ret (v := .agg #[.int .i64 4, .int .i64 0, .string ⟨t.toArray⟩, .slice none 0 0]) (by simp [results, Tryd.results12, go_sem]) rfl ⟨rfl, three_allocs _ _ _ _⟩
set_option maxRecDepth 100000 in
set_option maxHeartbeats 400000 in
theorem leaf0 (k m : Int) (t : Bs) (h2 : (k == 2) = false) (h3 : (k == 3) = false) (h4 : (k == 4) = false) (h5 : (k == 5) = false) (h6 : (k == 6) = false) : LeafSaid k m t 0 [] := by
  intro n A cap w
  go_enter Tryd.func12, Tryd.ntmps12
  go_wp2_with fail
  exact bodyPost_ret (v := .agg #[.int .i64 k, .int .i64 0, .string ⟨#[]⟩, .slice none 0 0]) (by simp [results, Tryd.results12, go_sem]) rfl ⟨rfl, three_allocs _ _ _ _⟩

theorem bare_leaf (k m : Int) (t : Bs) (l : List V) (h5 : k ≠ 5) : BareSaid (.mk k m t l) := by
  have conv : ∀ (n2 : Int) (t2 : Bs), Ds.bareF (.mk k m t l) = .mk k n2 t2 [] → LeafSaid k m t n2 t2 → BareSaid (.mk k m t l) := by
    intro n2 t2 he hs lo A cap w _ _
    rw [he]
    refine (hs l.length A cap w).mono fun e w' ⟨h1, h2⟩ => ⟨none, 0, h1, ?_, h2⟩
    simp [RV, RL, Ds.V.kind, Ds.V.num, Ds.V.text, Ds.V.args]
  by_cases c2 : k = 2
  · subst c2; exact conv m [] (by simp [Ds.bareF]) (leaf2 m t)
  by_cases c3 : k = 3
  · subst c3; exact conv m [] (by simp [Ds.bareF]) (leaf3 m t)
  by_cases c6 : k = 6
  · subst c6; exact conv m [] (by simp [Ds.bareF]) (leaf6 m t)
  by_cases c4 : k = 4
  · subst c4; exact conv 0 t (by simp [Ds.bareF]) (leaf4 m t)
  · exact conv 0 [] (by simp [Ds.bareF, c2, c3, c6, c4, h5]) (leaf0 k m t (by simpa using c2) (by simpa using c3) (by simpa using c4) (by simpa using h5) (by simpa using c6))
end Go.Proofs.YtbfiejgdgdlciaaDoor
