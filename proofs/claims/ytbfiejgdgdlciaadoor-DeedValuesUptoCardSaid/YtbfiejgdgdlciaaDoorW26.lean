/-
  roadkeep1.same and slices.EqualFunc: true where both arguments read as the same value.
-/
import Derived.Test.YtbfiejgdgdlciaaDoorW1
import Derived.Test.YtbfiejgdgdlciaaDoorLaws1
namespace Go.Proofs.YtbfiejgdgdlciaaDoor
open Go.RowKit
open Ds (V Bs D)

theorem nodes_mem' : ∀ {l : List V} {y : V}, y ∈ l → Ds.nodes y ≤ Ds.nodesL l
  | x :: r, y, h => by
    rcases List.mem_cons.1 h with rfl | h
    · simp only [Ds.nodesL]; omega
    · have := nodes_mem' h
      simp only [Ds.nodesL]; omega
theorem nodes_len' : ∀ l : List V, l.length ≤ Ds.nodesL l
  | [] => Nat.le_refl _
  | x :: r => by
    have := nodes_len' r
    have h1 : 1 ≤ Ds.nodes x := by cases x; simp only [Ds.nodes]; omega
    simp only [List.length_cons, Ds.nodesL]; omega

/-- what same does where both are this value -/
def SameSaid (x : V) : Prop := ∀ (lo lo' : Nat → Prop) (A A' : Option Addr) (cap cap' : Nat) (w : World), RL w lo A 0 x.args → RL w lo' A' 0 x.args →
  Calls Tryd.prog 11 #[.agg #[.int .i64 x.kind, .int .i64 x.num, .string ⟨x.text.toArray⟩, .slice A x.args.length cap], .agg #[.int .i64 x.kind, .int .i64 x.num, .string ⟨x.text.toArray⟩, .slice A' x.args.length cap']] w
    fun e w' => e = .returned (.bool true) ∧ Below w.heap.size w w'

set_option maxRecDepth 100000 in
set_option maxHeartbeats 400000 in
theorem eq_calls (l : List V) (ih : ∀ y ∈ l, SameSaid y) (lo lo' : Nat → Prop) (A A' : Option Addr) (cap cap' : Nat) (w : World) (hl : l.length ≤ 9223372036854775806) (hR : RL w lo A 0 l) (hR' : RL w lo' A' 0 l) :
    Calls Tryd.prog 23 #[.slice A l.length cap, .slice A' l.length cap', .func (.func 11) #[] #[]] w fun e w' => e = .returned (.bool true) ∧ Below w.heap.size w w' := by
  have HR := Lib.hid (And.intro hR hR')
  have HIH := Lib.hid ih
  have n9 : (0 : Int) ≤ (l.length : Int) := Int.natCast_nonneg _
  clear ih hR hR'
  go_enter Tryd.func23, Tryd.ntmps23
  go_wp2_with fail
  go_loopw [7, 8, 9, 17] (fun _ _ _ i wr => ∃ j : Nat, j ≤ l.length ∧ i = .int .i64 j ∧ Below w.heap.size w wr) (fun _ _ _ i _ => l.length - (intOf i).toNat)
  case atStart => exact ⟨0, Nat.zero_le _, rfl, Below.refl _ _⟩
  case round =>
    obtain ⟨j, hj, rfl, hb⟩ := hrel
    have n0 : (0 : Int) ≤ (j : Int) := Int.natCast_nonneg _
    by_cases hlt : j < l.length
    · obtain ⟨b1, o1, _, _, _, _, e1, _⟩ := (HR.out.1.below hb).get (List.getElem?_eq_getElem hlt)
      obtain ⟨b2, o2, _, _, _, _, e2, _⟩ := (HR.out.2.below hb).get (List.getElem?_eq_getElem hlt)
      subst e1 e2
      obtain ⟨A1, c1, _, k0, k1, k2, k3, hv⟩ := (HR.out.1.below hb).at_ (List.getElem?_eq_getElem hlt)
      obtain ⟨A2, c2, _, m0, m1, m2, m3, hv'⟩ := (HR.out.2.below hb).at_ (List.getElem?_eq_getElem hlt)
      have hs := HIH.out l[j] (List.getElem_mem hlt)
      generalize l[j] = y at k0 k1 k2 k3 m0 m1 m2 m3 hv hv' hs
      have hl2 := lt_of_cell m0
      simp only at hl2
      have q : ∀ (i : Nat) (u : Value) (o : Obj), wr.cell? ⟨b2, i, none⟩ = some u → (wr.alloc o).cell? ⟨b2, i, none⟩ = some u := fun i u o h => by rw [World.cell?_alloc_lt wr o _ (by simpa using hl2)]; exact h
      have m0' := fun o => q _ _ o m0
      have m1' := fun o => q _ _ o m1
      have m2' := fun o => q _ _ o m2
      have m3' := fun o => q _ _ o m3
      have hargs : ∀ (lo : Nat → Prop) (A1 : Option Addr) (c1 : Nat), RV wr lo y (.int .i64 y.kind) (.int .i64 y.num) (.string ⟨y.text.toArray⟩) (.slice A1 y.args.length c1) → RL wr lo A1 0 y.args := fun lo A1 c1 h => by
        obtain ⟨A3, c3, _, _, _, e3, _, hr⟩ := h.form
        injection e3 with e1 _ _
        rw [e1]
        exact hr
      have HA1 := Lib.hid (hargs _ _ _ hv)
      have HA2 := Lib.hid (hargs _ _ _ hv')
      have HS := Lib.hid hs
      have HB := Lib.hid hb
      have hw1 : IntKind.i64.wrap ((j : Int) + 1) = (j : Int) + 1 := IntWalk.i64_in _ (by omega)
      clear hargs hv hv' hs q
      go_wp2_with fail
      refine (HS.out _ _ _ _ _ _ _ (HA1.out.below (((Below.refl _ _).alloc (Nat.le_refl _) _).alloc (by simp) _)) (HA2.out.below (((Below.refl _ _).alloc (Nat.le_refl _) _).alloc (by simp) _))).mono ?_
      rintro e w2 ⟨rfl, hb2⟩
      have hbz := HB.out.size
      have HB2 := Lib.hid (((HB.out.alloc hbz _).alloc (by simp; omega) _).trans (hb2.mono (by simp; omega)))
      clear hb2 k0 k1 k2 k3 m0 m1 m2 m3 m0' m1' m2' m3'
      go_wp2_with fail
      go_roundw
      case rel => exact ⟨j + 1, by omega, by go_num, HB2.out⟩
      case measure => simp [intOf]; omega
    · have hn : ¬ (j : Int) < (l.length : Int) := by omega
      clear hlt
      go_wp2_with fail
      go_ret
      exact ⟨rfl, hb⟩

set_option maxRecDepth 100000 in
set_option maxHeartbeats 400000 in
theorem same_walk (k m : Int) (t : Bs) (l : List V) (ih : ∀ y ∈ l, SameSaid y) (hl : l.length ≤ 9223372036854775806) : SameSaid (.mk k m t l) := by
  intro lo lo' A A' cap cap' w hR hR'
  simp only [Ds.V.args] at hR hR'
  simp only [Ds.V.args, Ds.V.kind, Ds.V.num, Ds.V.text]
  have HR := Lib.hid (And.intro hR hR')
  have HC := Lib.hid fun (W : World) (h1 : RL W lo A 0 l) (h2 : RL W lo' A' 0 l) => eq_calls l ih lo lo' A A' cap cap' W hl h1 h2
  clear hR hR' ih
  have hb : Below w.heap.size w ((w.alloc (.cells #[.int .i64 k, .int .i64 m, .string ⟨t.toArray⟩, .slice A l.length cap] 34)).alloc (.cells #[.int .i64 k, .int .i64 m, .string ⟨t.toArray⟩, .slice A' l.length cap'] 34)) := ((Below.refl _ _).alloc (Nat.le_refl _) _).alloc (by simp) _
  have HB := Lib.hid hb
  clear hb
  go_enter Tryd.func11, Tryd.ntmps11
  go_wp2_with (go_at_call 23; refine (HC.out _ (HR.out.1.below HB.out) (HR.out.2.below HB.out)).mono ?_; rintro e w2 ⟨rfl, hb2⟩; have HB2 := Lib.hid (HB.out.trans (hb2.mono (by simp; omega))); clear hb2)
  go_ret
  exact ⟨rfl, HB2.out⟩

theorem same_calls : ∀ (n : Nat) (x : V), Ds.nodes x ≤ n → n ≤ 33554432 → SameSaid x
  | 0, .mk k m t l, h, _ => by simp only [Ds.nodes] at h; omega
  | n + 1, .mk k m t l, h, hn => by
    simp only [Ds.nodes] at h
    refine same_walk k m t l (fun y hy => same_calls n y ?_ (by omega)) ?_
    · have := nodes_mem' hy
      omega
    · have := nodes_len' l
      omega
end Go.Proofs.YtbfiejgdgdlciaaDoor
