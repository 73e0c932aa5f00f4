/-
  roadkeep1.lined, call by call.
-/
import Derived.Test.YtbfiejgdgdlciaaDoorW18
namespace Go.Proofs.YtbfiejgdgdlciaaDoor
open Go.RowKit
open Ds (V Bs D)

namespace Ds
def lineT : Bs := [116, 101, 108, 108, 32, 49, 48, 48, 49, 32, 66, 40, 51, 44, 39, 97, 32, 98, 39, 41]
def lineA : V := .mk 5 0 [66] [.mk 2 3 [] [], .mk 4 0 [97, 32, 98] []]
def lineD : D := ⟨2, 1001, 0, [], [lineA]⟩
theorem line_reads : lineF lineT = (lineD, 0) := by kernel_rfl
theorem line_prints : printF lineD = (lineT, 0) := by kernel_rfl
end Ds
theorem line_fit : Fit Ds.lineD := by
  refine ⟨?_, ?_, ?_, ?_, ?_, ?_⟩
  all_goals simp [Ds.lineD, Ds.lineA, inInt, Ds.wfL, Ds.wfV, Ds.nodesL, Ds.nodes]

set_option maxRecDepth 100000 in
set_option maxHeartbeats 1000000 in
theorem lined_calls (w : World) (he : Env w) : Calls Tryd.prog 6 #[] w fun e w' => e = .returned (.bool true) ∧ Below w.heap.size w w' := by
  have h1 : ∀ W, Env W → Calls Tryd.prog 8 #[.string ⟨#[116, 101, 108, 108, 32, 49, 48, 48, 49, 32, 66, 40, 51, 44, 39, 97, 32, 98, 39, 41]⟩] W fun e w' => ∃ (g o cap g2 o2 c2 : Nat),
      e = .returned (.tuple #[.agg #[.int .i64 2, .int .i64 1001, .int .i64 0, .string ⟨#[]⟩, .slice (some ⟨g, o, none⟩) 1 cap], .int .i64 0]) ∧ Below W.heap.size W w' ∧
      RL w' (fun _ => True) (some ⟨g, o, none⟩) 0 [Ds.lineA] ∧ w'.cell? ⟨g, o + 3, none⟩ = some (.slice (some ⟨g2, o2, none⟩) 2 c2) ∧ w'.cell? ⟨g2, o2 + 4 + 2, none⟩ = some (.string ⟨#[97, 32, 98]⟩) := fun W hW => by
    have h := Parse_calls Ds.lineT W hW (by decide)
    rw [Ds.line_reads] at h
    refine h.mono fun e w' ⟨A, cap, he, hc, hR, hb⟩ => ?_
    simp only [Ds.lineD, List.length_cons, List.length_nil] at he hc hR
    obtain ⟨g, o, rfl⟩ := hR.addr
    obtain ⟨A2, c2, _, _, _, _, h3, hv⟩ := hR.at_ (j := 0) rfl
    have hv' : RL w' (fun k => W.heap.size ≤ k) A2 0 Ds.lineA.args := by
      obtain ⟨A3, c3, _, _, _, e3, _, hr⟩ := hv.form
      injection e3 with e1 _ _
      rw [e1]
      exact hr
    obtain ⟨g2, o2, rfl⟩ := RL.addr (x := .mk 2 3 [] []) (r := [.mk 4 0 [97, 32, 98] []]) hv'
    obtain ⟨_, _, _, _, _, h22, _, _⟩ := RL.at_ (j := 1) (y := .mk 4 0 [97, 32, 98] []) hv' rfl
    exact ⟨g, o, cap, g2, o2, c2, he, hb, RL.mono2 (fun _ _ => trivial) 0 _ hR, by simpa [Ds.lineA, Ds.V.args] using h3, h22⟩
  have h2 : ∀ (A : Option Addr) (cap : Nat) (W : World), RL W (fun _ => True) A 0 [Ds.lineA] → Env W → Calls Tryd.prog 7 #[.agg #[.int .i64 2, .int .i64 1001, .int .i64 0, .string ⟨#[]⟩, .slice A 1 cap]] W fun e w' =>
      e = .returned (.tuple #[.string ⟨#[116, 101, 108, 108, 32, 49, 48, 48, 49, 32, 66, 40, 51, 44, 39, 97, 32, 98, 39, 41]⟩, .int .i64 0]) ∧ Below W.heap.size W w' := fun A cap W hR hE => by
    have := Print_calls Ds.lineD A cap _ W hR line_fit hE
    rw [Ds.line_prints] at this
    exact this
  have H1 := Lib.hid h1
  have H2 := Lib.hid h2
  have HE := Lib.hid he
  clear h1 h2 he
  go_enter Tryd.func6, Tryd.ntmps6
  go_wp2_with (go_at_call 8; refine (H1.out _ HE.out).mono ?_; rintro e w1 ⟨g, o, cap, g2, o2, c2, rfl, hb1, hR, hc1, hc2⟩; refine Hid.out ?_)
  have hE1 := HE.out.below hb1 HE.out.sz
  have HRA := Lib.hid (hR.below ((Below.refl _ _).alloc (Nat.le_refl _) (.cells #[.int .i64 2, .int .i64 1001, .int .i64 0, .string ⟨#[]⟩, .slice (some ⟨g, o, none⟩) 1 cap] 24)))
  have HEA := Lib.hid (hE1.alloc (.cells #[.int .i64 2, .int .i64 1001, .int .i64 0, .string ⟨#[]⟩, .slice (some ⟨g, o, none⟩) 1 cap] 24))
  have hBd := Blk.new w1 24 #[.int .i64 2, .int .i64 1001, .int .i64 0, .string ⟨#[]⟩, .slice (some ⟨g, o, none⟩) 1 cap]
  have HBD := Lib.hid hBd
  have HB := Lib.hid (hb1.alloc hb1.size (.cells #[.int .i64 2, .int .i64 1001, .int .i64 0, .string ⟨#[]⟩, .slice (some ⟨g, o, none⟩) 1 cap] 24))
  have HC := Lib.hid (And.intro hc1 hc2)
  clear hb1 hR hE1 hBd hc1 hc2
  refine Lib.hid ?_
  go_wp2_with (go_at_call 7; refine (H2.out _ _ _ HRA.out HEA.out).mono ?_; rintro e w3 ⟨rfl, hb3⟩; refine Hid.out ?_)
  have k1 : w3.cell? ⟨g, o + 3, none⟩ = some (.slice (some ⟨g2, o2, none⟩) 2 c2) := by
    have hl := lt_of_cell HC.out.1
    simp only at hl
    refine (World.cell?_of_block (w := w1) (a := ⟨g, _, none⟩) ?_).trans HC.out.1
    exact (hb3.block g (by simp; omega)).trans (Below.heap_alloc w1 _ g hl)
  have k2 : w3.cell? ⟨g2, o2 + 4 + 2, none⟩ = some (.string ⟨#[97, 32, 98]⟩) := by
    have hl := lt_of_cell HC.out.2
    simp only at hl
    refine (World.cell?_of_block (w := w1) (a := ⟨g2, _, none⟩) ?_).trans HC.out.2
    exact (hb3.block g2 (by simp; omega)).trans (Below.heap_alloc w1 _ g2 hl)
  have hB3 := HBD.out.below hb3 HBD.out.lt
  have x0 := hB3.cell 0
  have x1 := hB3.cell 1
  have x4 := hB3.cell 4
  simp only [List.getElem?_toArray, List.getElem?_cons_zero, List.getElem?_cons_succ] at x0 x1 x4
  have HB3 := Lib.hid (HB.out.trans (hb3.mono HB.out.size))
  clear hb3 hB3
  refine Lib.hid ?_
  go_wp2_with fail
  go_ret
  exact ⟨rfl, HB3.out⟩
end Go.Proofs.YtbfiejgdgdlciaaDoor
