/-
  deed.Parse, call by call.
-/
import Derived.Test.YtbfiejgdgdlciaaDoorW17
import Derived.Test.YtbfiejgdgdlciaaDoorLaws3
namespace Go.Proofs.YtbfiejgdgdlciaaDoor
open Go.RowKit
open Ds (V Bs D)

/-- what deed.Parse leaves -/
def LPost (w : World) (o : D × Int) (e : Ending) (w' : World) : Prop :=
  ∃ (A : Option Addr) (cap : Nat), e = .returned (.tuple #[.agg #[.int .i64 o.1.kind, .int .i64 o.1.a, .int .i64 o.1.b, .string ⟨o.1.text.toArray⟩, .slice A o.1.args.length cap], .int .i64 o.2]) ∧ o.1.args.length ≤ cap ∧
    RL w' (fun k => w.heap.size ≤ k) A 0 o.1.args ∧ Below w.heap.size w w'

theorem LPost.zero {w w' : World} (h : Below w.heap.size w w') : LPost w (Ds.zeroD, 10) (.returned (.tuple #[.agg #[.int .i64 0, .int .i64 0, .int .i64 0, .string ⟨#[]⟩, .slice none 0 0], .int .i64 10])) w' :=
  ⟨none, 0, rfl, Nat.le_refl _, by simp [Ds.zeroD, RL], h⟩

/-- split, then parse -/
theorem words_calls (s : Bs) (w : World) (he : Env w) (hl : s.length ≤ 16777216) (base g cap : Nat) (F : List Bs) (hF : Ds.splitF [] [] false s = F)
    (hown : w.ownsRow base 9 1 (.slice (some ⟨g, 0, none⟩) F.length cap) F.length (strs F)) :
    Calls Tryd.prog 19 #[.slice (some ⟨g, 0, none⟩) F.length cap] w (PPost w (Ds.parseF F)) := by
  have hsum : Ds.lsum F = s.length + 1 := by
    rw [← hF, Ds.splitF_lsum]; simp [Ds.lsum]; omega
  cases F with
  | nil => simp [Ds.lsum] at hsum
  | cons t r =>
    have hcount := Ds.lsum_count (t :: r)
    obtain ⟨g', cap', e, _, hgl, hcap⟩ := own_form hown (by simp)
    injection e with e1 _ e3
    injection e1 with e1
    injection e1 with e1
    subst e1
    subst e3
    refine parse_calls t r g cap _ w rfl hcap (by omega) hgl (fun i x hx => ⟨?_, ?_⟩) he
    · have := hown.cells (g := g) rfl i (.string ⟨x.toArray⟩) (by rw [strs, List.getElem?_map, hx]; rfl)
      rw [add0] at this
      exact this
    · have := Ds.lsum_mem (List.mem_of_getElem? hx)
      omega

/-- split and parse, one behind another: the words' row, then the deed -/
def SP (s : Bs) (d : D) (ok : Bool) : Prop := ∀ W, Calls Tryd.prog 20 #[.string ⟨s.toArray⟩] W fun e w' => ∃ (g cap nF : Nat), e = .returned (.slice (some ⟨g, 0, none⟩) nF cap) ∧ Below W.heap.size W w' ∧
      (Env w' → Calls Tryd.prog 19 #[.slice (some ⟨g, 0, none⟩) nF cap] w' fun e w2 => ∃ (A : Option Addr) (cp : Nat), e = .returned (.tuple #[.agg #[.int .i64 d.kind, .int .i64 d.a, .int .i64 d.b, .string ⟨d.text.toArray⟩, .slice A d.args.length cp], .bool ok]) ∧ d.args.length ≤ cp ∧
        RL w2 (fun k => w'.heap.size ≤ k) A 0 d.args ∧ Below w'.heap.size w' w2)

theorem sp_of (s : Bs) (hl : s.length ≤ 16777216) (o : Option D) (hp : Ds.parseF (Ds.splitF [] [] false s) = o) : SP s (o.getD Ds.zeroD) o.isSome := fun W =>
  (split_walk s W hl _ (Lib.hid rfl)).mono fun e w' ⟨g, cap, h1, h2, h3⟩ => ⟨g, cap, _, h1, h3, fun hE => (words_calls s w' hE hl _ g cap _ rfl h2).mono fun e w2 ⟨d, A, cp, he, hd, hc, hR, hb⟩ => by
    rw [hp] at he hd
    rw [hd]
    exact ⟨A, cp, he, hc, hR, hb⟩⟩

set_option maxRecDepth 100000 in
set_option maxHeartbeats 1000000 in
theorem Parse_none (s : Bs) (w : World) (he : Env w) (h1 : SP s Ds.zeroD false) : Calls Tryd.prog 8 #[.string ⟨s.toArray⟩] w (LPost w (Ds.zeroD, 10)) := by
  have HE := Lib.hid he
  unfold SP at h1
  simp only [Ds.zeroD, List.length_nil] at h1
  have H1 := Lib.hid h1
  clear h1 he
  go_enter Tryd.func8, Tryd.ntmps8
  go_wp2_with (go_at_call 20; refine (H1.out _).mono ?_; rintro e w1 ⟨g, cap, nF, rfl, hb1, hpc⟩; refine Hid.out ?_)
  have hbw1 : Below w.heap.size w w1 := ((Below.refl _ _).alloc (Nat.le_refl _) (.cells zeroD5 24)).trans (hb1.mono (by simp))
  have HPC := Lib.hid (hpc (HE.out.below hbw1 HE.out.sz))
  have HB := Lib.hid (And.intro hbw1 ((Blk.new w 24 zeroD5).below hb1 (by simp)))
  clear hb1 hpc hbw1
  refine Lib.hid ?_
  go_wp2_with (go_at_call 19; refine HPC.out.mono ?_; rintro e w2 ⟨A, cp, rfl, _, _, hb2⟩; refine Hid.out ?_)
  have hb := HB.out.1.trans (hb2.mono HB.out.1.size)
  have hz := (HB.out.2.below hb2 HB.out.2.lt)
  have hb' := hb.alloc hb.size (.cells #[.int .i64 0, .int .i64 0, .int .i64 0, .string ⟨#[]⟩, .slice A 0 cp] 24)
  have hz' := hz.alloc (.cells #[.int .i64 0, .int .i64 0, .int .i64 0, .string ⟨#[]⟩, .slice A 0 cp] 24)
  have hzl := hz'.lt
  have z0 := hz'.cell 0
  have z1 := hz'.cell 1
  have z2 := hz'.cell 2
  have z3 := hz'.cell 3
  have z4 := hz'.cell 4
  have y0 := hz'.frozen 0
  have y1 := hz'.frozen 1
  have y2 := hz'.frozen 2
  have y3 := hz'.frozen 3
  have y4 := hz'.frozen 4
  simp only [zeroD5, List.getElem?_toArray, List.getElem?_cons_zero, List.getElem?_cons_succ] at z0 z1 z2 z3 z4
  have HZ := Lib.hid hz'
  have HBB := Lib.hid hb'
  clear hz hb hz' hb' hb2
  refine Lib.hid ?_
  go_wp2_with fail
  obtain ⟨W', hW', hB', hb', _⟩ := set5 (.int .i64 0) (.int .i64 0) (.int .i64 0) (.string ⟨#[]⟩) (.slice none 0 0) HZ.out HBB.out
  rw [← hW']
  have p0 := hB'.cell 0
  have p1 := hB'.cell 1
  have p2 := hB'.cell 2
  have p3 := hB'.cell 3
  have p4 := hB'.cell 4
  exact bodyPost_ret (v := .tuple #[.agg #[.int .i64 0, .int .i64 0, .int .i64 0, .string ⟨#[]⟩, .slice none 0 0], .int .i64 10]) (by simp [results, Tryd.results8, go_sem, p0, p1, p2, p3, p4]) rfl (LPost.zero hb')

set_option maxRecDepth 100000 in
set_option maxHeartbeats 1000000 in
theorem Parse_some (s : Bs) (w : World) (he : Env w) (d : D) (h1 : SP s d true) (hf : Fit d) (p : Bs) (pe : Int) (hp : Ds.printF d = (p, pe)) (o : D × Int) (HO : Hid ((pe = 0 → p = s → o = (d, 0)) ∧ (pe ≠ 0 ∨ p ≠ s → o = (Ds.zeroD, 10)))) :
    Calls Tryd.prog 8 #[.string ⟨s.toArray⟩] w (LPost w o) := by
  have hpr : ∀ (A : Option Addr) (cap : Nat) (lo : Nat → Prop) (W : World), RL W lo A 0 d.args → Env W → Calls Tryd.prog 7 #[.agg #[.int .i64 d.kind, .int .i64 d.a, .int .i64 d.b, .string ⟨d.text.toArray⟩, .slice A d.args.length cap]] W fun e w' =>
      e = .returned (.tuple #[.string ⟨p.toArray⟩, .int .i64 pe]) ∧ Below W.heap.size W w' := fun A cap lo W hR hE => by
    have := Print_calls d A cap lo W hR hf hE
    rw [hp] at this
    exact this
  have HPR := Lib.hid hpr
  have HE := Lib.hid he
  unfold SP at h1
  have H1 := Lib.hid h1
  clear h1 he hpr hp hf
  go_enter Tryd.func8, Tryd.ntmps8
  go_wp2_with (go_at_call 20; refine (H1.out _).mono ?_; rintro e w1 ⟨g, cap, nF, rfl, hb1, hpc⟩; refine Hid.out ?_)
  have hbw1 : Below w.heap.size w w1 := ((Below.refl _ _).alloc (Nat.le_refl _) (.cells zeroD5 24)).trans (hb1.mono (by simp))
  have HPC := Lib.hid (hpc (HE.out.below hbw1 HE.out.sz))
  have HB := Lib.hid (And.intro hbw1 ((Blk.new w 24 zeroD5).below hb1 (by simp)))
  have hsz1 : w.heap.size < w1.heap.size := by have := hb1.size; simp at this; omega
  clear hb1 hpc hbw1
  refine Lib.hid ?_
  go_wp2_with (go_at_call 19; refine HPC.out.mono ?_; rintro e w2 ⟨A, cp, rfl, hcp, hRL, hb2⟩; refine Hid.out ?_)
  have hb := HB.out.1.trans (hb2.mono HB.out.1.size)
  have hz := (HB.out.2.below hb2 HB.out.2.lt)
  have hba := hb.alloc hb.size (.cells #[.int .i64 d.kind, .int .i64 d.a, .int .i64 d.b, .string ⟨d.text.toArray⟩, .slice A d.args.length cp] 24)
  have hza := hz.alloc (.cells #[.int .i64 d.kind, .int .i64 d.a, .int .i64 d.b, .string ⟨d.text.toArray⟩, .slice A d.args.length cp] 24)
  have hBd := Blk.new w2 24 #[.int .i64 d.kind, .int .i64 d.a, .int .i64 d.b, .string ⟨d.text.toArray⟩, .slice A d.args.length cp]
  have hRa := hRL.below ((Below.refl _ _).alloc (Nat.le_refl _) (.cells #[.int .i64 d.kind, .int .i64 d.a, .int .i64 d.b, .string ⟨d.text.toArray⟩, .slice A d.args.length cp] 24))
  have hEa := HE.out.below hba HE.out.sz
  have HBA := Lib.hid hba
  have HZA := Lib.hid hza
  have HBD := Lib.hid hBd
  have HRA := Lib.hid hRa
  have HEA := Lib.hid hEa
  clear hb hz hba hza hBd hRL hRa hEa hb2
  refine Lib.hid ?_
  go_wp2_with (go_at_call 7; refine (HPR.out _ _ _ _ HRA.out HEA.out).mono ?_; rintro e w3 ⟨rfl, hb3⟩; refine Hid.out ?_)
  have HBr3 := Lib.hid (HZA.out.below hb3 HZA.out.lt)
  have HBx3 := Lib.hid (HBD.out.below hb3 HBD.out.lt)
  have HV3 := Lib.hid (HRA.out.below hb3)
  have hgw3 : Below w.heap.size w w3 := HBA.out.trans (hb3.mono HBA.out.size)
  have hz := HBr3.out.lt
  have z0 := HBr3.out.cell 0
  have z1 := HBr3.out.cell 1
  have z2 := HBr3.out.cell 2
  have z3 := HBr3.out.cell 3
  have z4 := HBr3.out.cell 4
  have y0 := HBr3.out.frozen 0
  have y1 := HBr3.out.frozen 1
  have y2 := HBr3.out.frozen 2
  have y3 := HBr3.out.frozen 3
  have y4 := HBr3.out.frozen 4
  simp only [zeroD5, List.getElem?_toArray, List.getElem?_cons_zero, List.getElem?_cons_succ] at z0 z1 z2 z3 z4
  have x0 : w3.cell? ⟨w2.heap.size, 0, none⟩ = some (.int .i64 d.kind) := HBx3.out.cell 0
  have x1 : w3.cell? ⟨w2.heap.size, 1, none⟩ = some (.int .i64 d.a) := HBx3.out.cell 1
  have x2 : w3.cell? ⟨w2.heap.size, 2, none⟩ = some (.int .i64 d.b) := HBx3.out.cell 2
  have x3 : w3.cell? ⟨w2.heap.size, 3, none⟩ = some (.string ⟨d.text.toArray⟩) := HBx3.out.cell 3
  have x4 : w3.cell? ⟨w2.heap.size, 4, none⟩ = some (.slice A d.args.length cp) := HBx3.out.cell 4
  clear hb3
  by_cases hte : pe = 0
  · subst hte
    by_cases hts : p = s
    · subst hts
      refine Lib.hid ?_
      go_wp2_with fail
      obtain ⟨W', hW', hB', hb', hk'⟩ := set5 (.int .i64 d.kind) (.int .i64 d.a) (.int .i64 d.b) (.string ⟨d.text.toArray⟩) (.slice A d.args.length cp) HBr3.out hgw3
      rw [← hW']
      have p0 := hB'.cell 0
      have p1 := hB'.cell 1
      have p2 := hB'.cell 2
      have p3 := hB'.cell 3
      have p4 := hB'.cell 4
      have ho := HO.out.1 trivial trivial
      subst ho
      exact bodyPost_ret (v := .tuple #[.agg #[.int .i64 d.kind, .int .i64 d.a, .int .i64 d.b, .string ⟨d.text.toArray⟩, .slice A d.args.length cp], .int .i64 0]) (by simp [results, Tryd.results8, go_sem, p0, p1, p2, p3, p4]) rfl
        ⟨A, cp, rfl, hcp, RL.mono2 (fun k h => by omega) 0 _ (RL.keep (fun k h _ => hk' k (by omega)) A 0 _ HV3.out), hb'⟩
    · have hts' : (p == s) = false := by simpa using hts
      have HTS := Lib.hid hts
      clear hts
      refine Lib.hid ?_
      go_wp2_with fail
      obtain ⟨W', hW', hB', hb', _⟩ := set5 (.int .i64 0) (.int .i64 0) (.int .i64 0) (.string ⟨#[]⟩) (.slice none 0 0) HBr3.out hgw3
      rw [← hW']
      have p0 := hB'.cell 0
      have p1 := hB'.cell 1
      have p2 := hB'.cell 2
      have p3 := hB'.cell 3
      have p4 := hB'.cell 4
      have ho := HO.out.2 (Or.inr HTS.out)
      subst ho
      exact bodyPost_ret (v := .tuple #[.agg #[.int .i64 0, .int .i64 0, .int .i64 0, .string ⟨#[]⟩, .slice none 0 0], .int .i64 10]) (by simp [results, Tryd.results8, go_sem, p0, p1, p2, p3, p4]) rfl (LPost.zero hb')
  · have hne : (pe != 0) = true := by rw [bne_iff_ne]; exact hte
    have HTE := Lib.hid hte
    clear hte
    refine Lib.hid ?_
    go_wp2_with fail
    obtain ⟨W', hW', hB', hb', _⟩ := set5 (.int .i64 0) (.int .i64 0) (.int .i64 0) (.string ⟨#[]⟩) (.slice none 0 0) HBr3.out hgw3
    rw [← hW']
    have p0 := hB'.cell 0
    have p1 := hB'.cell 1
    have p2 := hB'.cell 2
    have p3 := hB'.cell 3
    have p4 := hB'.cell 4
    have ho := HO.out.2 (Or.inl HTE.out)
    subst ho
    exact bodyPost_ret (v := .tuple #[.agg #[.int .i64 0, .int .i64 0, .int .i64 0, .string ⟨#[]⟩, .slice none 0 0], .int .i64 10]) (by simp [results, Tryd.results8, go_sem, p0, p1, p2, p3, p4]) rfl (LPost.zero hb')

/-- deed.Parse -/
theorem Parse_calls (s : Bs) (w : World) (he : Env w) (hl : s.length ≤ 16777216) : Calls Tryd.prog 8 #[.string ⟨s.toArray⟩] w (LPost w (Ds.lineF s)) := by
  unfold Ds.lineF
  cases hp : Ds.parseF (Ds.splitF [] [] false s) with
  | none => exact Parse_none s w he (sp_of s hl none hp)
  | some d =>
    have hsum : Ds.lsum (Ds.splitF [] [] false s) = s.length + 1 := by
      rw [Ds.splitF_lsum]; simp [Ds.lsum]; omega
    have hf := Ds.parseF_fit hp (by omega)
    rcases hpr : Ds.printF d with ⟨p, pe⟩
    refine Parse_some s w he d (sp_of s hl (some d) hp) hf p pe hpr _ (Lib.hid ⟨fun h1 h2 => ?_, fun h => ?_⟩)
    · simp only [hpr]
      rw [if_pos ⟨h1, h2⟩]
    · simp only [hpr]
      rw [if_neg (fun hh => by rcases h with h | h; exact h hh.1; exact h hh.2)]
end Go.Proofs.YtbfiejgdgdlciaaDoor
