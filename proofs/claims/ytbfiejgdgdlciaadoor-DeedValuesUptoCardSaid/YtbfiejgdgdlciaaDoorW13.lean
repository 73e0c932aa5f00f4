/-
  deed.Value, call by call.
-/
import Derived.Test.YtbfiejgdgdlciaaDoorW12
import Derived.Test.YtbfiejgdgdlciaaDoorW3
namespace Go.Proofs.YtbfiejgdgdlciaaDoor
open Go.RowKit
open Ds (V Bs D)

theorem loopF_wf (f : Bs → Bool → V × Bs × Bool) (hf : ∀ r bad, r.length ≤ 16777216 → Ds.wfV (f r bad).1) (hl : ∀ r bad, (f r bad).2.1.length ≤ r.length) : ∀ (k : Nat) (r : Bs) (bad : Bool), r.length ≤ 16777216 → Ds.wfL (Ds.loopF f k r bad).1
  | 0, _, _, _ => by simp [Ds.loopF, Ds.wfL]
  | k + 1, r, bad, h => by
    have h1 := hf r bad h
    have h2 := hl r bad
    simp only [Ds.loopF]
    split
    · simp [Ds.wfL]
    · split
      · exact ⟨h1, trivial⟩
      · split
        · exact ⟨h1, loopF_wf f hf hl k _ _ (by simp; omega)⟩
        · exact ⟨h1, trivial⟩

theorem leaf_wf (k n : Int) (t : Bs) (hk : 0 ≤ k ∧ k ≤ 9) (hn : -9223372036854775808 ≤ n ∧ n ≤ 9223372036854775807) (ht : t.length ≤ 16777216) (l : List V) (hl : Ds.wfL l) : Ds.wfV (.mk k n t l) := by
  simp only [Ds.wfV]
  exact ⟨by omega, by omega, hn, hl⟩

theorem valueF_wf : ∀ (n : Nat) (r : Bs) (bad : Bool), r.length ≤ 16777216 → Ds.wfV (Ds.valueF n r bad).1
  | 0, _, _, _ => leaf_wf 0 0 [] (by omega) (by omega) (by simp) [] trivial
  | n + 1, [], _, _ => leaf_wf 0 0 [] (by omega) (by omega) (by simp) [] trivial
  | n + 1, c :: q, bad, h => by
    simp only [Ds.valueF]
    split
    · exact leaf_wf 1 0 [] (by omega) (by omega) (by simp) [] trivial
    split
    · exact leaf_wf 6 _ [] (by omega) (atoiN_in _) (by simp) [] trivial
    split
    · have := Ds.takeWhile_len Ds.noQ q
      simp only [List.length_cons] at h
      exact leaf_wf 4 0 _ (by omega) (by omega) (by omega) [] trivial
    split
    · have hs := Ds.takeWhile_len Ds.nameB (c :: q)
      have hr := Ds.dropWhile_len Ds.nameB (c :: q)
      generalize (c :: q).dropWhile Ds.nameB = r2 at hr
      generalize (c :: q).takeWhile Ds.nameB = s at hs
      unfold Ds.consF
      split
      · exact leaf_wf 3 1 [] (by omega) (by omega) (by simp) [] trivial
      split
      · exact leaf_wf 3 0 [] (by omega) (by omega) (by simp) [] trivial
      split
      · exact leaf_wf 5 0 s (by omega) (by omega) (by omega) _ (loopF_wf _ (fun r bad hr => valueF_wf n r bad hr) (Ds.valueF_len n) _ _ _ (by simp; omega))
      · exact leaf_wf 5 0 s (by omega) (by omega) (by omega) [] trivial
    · exact leaf_wf 2 _ [] (by omega) (atoiN_in _) (by simp) [] trivial

/-- what deed.Value leaves -/
def UPost (w : World) (o : V × Int) (e : Ending) (w' : World) : Prop :=
  ∃ c0 c1 c2 c3, e = .returned (.tuple #[.agg #[c0, c1, c2, c3], .int .i64 o.2]) ∧ RV w' (fun k => w.heap.size ≤ k) o.1 c0 c1 c2 c3 ∧ Below w.heap.size w w'

theorem UPost.zero {w w' : World} (h : Below w.heap.size w w') : UPost w (Ds.zeroV, 10) (.returned (.tuple #[.agg #[.int .i64 0, .int .i64 0, .string ⟨#[]⟩, .slice none 0 0], .int .i64 10])) w' :=
  ⟨_, _, _, _, rfl, by simp [Ds.zeroV, RV, RL], h⟩

theorem below_of_own {a w w' : World} {b : Nat} (h : Below a.heap.size a w) (hg : w.grownBy w' (some b)) (hb : a.heap.size ≤ b) : Below a.heap.size a w' :=
  h.grown hg h.size (fun k e => by injection e; omega)

/-- the result's cell is written: the world behind it under a name -/
theorem set4 {w w1 : World} {x0 x1 x2 x3 : Value} (c0 c1 c2 c3 : Value) (hB : Blk w1 w.heap.size 34 #[x0, x1, x2, x3]) (hb : Below w.heap.size w w1) :
    ∃ W' : World, W' = ((((w1.setCell ⟨w.heap.size, 0, none⟩ c0).setCell ⟨w.heap.size, 1, none⟩ c1).setCell ⟨w.heap.size, 2, none⟩ c2).setCell ⟨w.heap.size, 3, none⟩ c3) ∧ Blk W' w.heap.size 34 #[c0, c1, c2, c3] ∧ Below w.heap.size w W' ∧
      ∀ k, k ≠ w.heap.size → W'.heap[k]? = w1.heap[k]? :=
  ⟨_, rfl, (((hB.set_ 0 c0).set_ 1 c1).set_ 2 c2).set_ 3 c3, (((hb.setCell (p := ⟨w.heap.size, 0, none⟩) (Nat.le_refl _) _).setCell (p := ⟨w.heap.size, 1, none⟩) (Nat.le_refl _) _).setCell (p := ⟨w.heap.size, 2, none⟩) (Nat.le_refl _) _).setCell (p := ⟨w.heap.size, 3, none⟩) (Nat.le_refl _) _,
    fun _ hk => (Below.heap_setCell _ _ _ _ hk).trans ((Below.heap_setCell _ _ _ _ hk).trans ((Below.heap_setCell _ _ _ _ hk).trans (Below.heap_setCell _ _ _ _ hk)))⟩

theorem rd_new (w : World) (s : Bs) : Rd ((w.alloc (.cells #[.int .i64 0, .int .i64 0, .string ⟨#[]⟩, .slice none 0 0] 34)).alloc (.cells #[.string ⟨s.toArray⟩, .bool false] 54)) (w.heap.size + 1) s false := by
  have h := Blk.new (w.alloc (.cells #[.int .i64 0, .int .i64 0, .string ⟨#[]⟩, .slice none 0 0] 34)) 54 #[.string ⟨s.toArray⟩, .bool false]
  have e : (w.alloc (.cells #[.int .i64 0, .int .i64 0, .string ⟨#[]⟩, .slice none 0 0] 34)).heap.size = w.heap.size + 1 := by simp
  rw [e] at h
  exact h

set_option maxRecDepth 100000 in
set_option maxHeartbeats 400000 in
theorem Value_bad (s rest : Bs) (x : V) (bad : Bool) (w : World) (he : Env w) (hl : s.length ≤ 16777216) (hv : Ds.valueF 40 s false = (x, rest, bad)) (hbr : (bad || !rest.isEmpty) = true) :
    Calls Tryd.prog 10 #[.string ⟨s.toArray⟩] w (UPost w (Ds.zeroV, 10)) := by
  have h8 := he.sz
  have hc := fun (W : World) (b : Nat) (hr : Rd W b s false) (hE : Env W) (hb8 : 8 ≤ b) => value_calls 40 b s false W hr hE hb8 hl (by omega)
  rw [hv] at hc
  have hc2 : ∀ (W : World) (b : Nat), Rd W b s false → Env W → 8 ≤ b → Calls Tryd.prog 22 #[.pointer (some ⟨b, 0, none⟩), .int .i64 1] W fun e w' => ∃ (A9 : Option Addr) (cap9 : Nat), e = .returned (.agg #[.int .i64 x.kind, .int .i64 x.num, .string ⟨x.text.toArray⟩, .slice A9 x.args.length cap9]) ∧
      Rd w' b rest bad ∧ W.grownBy w' (some b) := fun W b hr hE hb8 =>
    (hc W b hr hE hb8).mono fun e w' ⟨c0, c1, c2, c3, he, hv, hr, hg⟩ => by
      obtain ⟨A9, cap9, rfl, rfl, rfl, rfl, _, _⟩ := hv.form
      exact ⟨A9, cap9, he, hr, hg⟩
  have HC := Lib.hid hc2
  have HE := Lib.hid he
  have HBR := Lib.hid hbr
  clear hc hc2 he hv hbr hl
  go_enter Tryd.func10, Tryd.ntmps10
  have hrd := rd_new w s
  have HRD := Lib.hid hrd
  clear hrd
  go_wp2_with (go_at_call 22; refine (HC.out _ _ HRD.out ((HE.out.alloc _).alloc _) (by omega)).mono ?_; rintro e w1 ⟨A9, cap9, rfl, hr1, hg1⟩; refine Hid.out ?_)
  have hgw : Below w.heap.size w w1 := below_of_own (((Below.refl _ _).alloc (Nat.le_refl _) _).alloc (by simp) _) hg1 (by omega)
  have hBr : Blk w1 w.heap.size 34 zeroCells := ((Blk.new w 34 zeroCells).alloc _).grown hg1 (fun e => by injection e; omega)
  have hz := hBr.lt
  have z0 := hBr.cell 0
  have z1 := hBr.cell 1
  have z2 := hBr.cell 2
  have z3 := hBr.cell 3
  have y0 := hBr.frozen 0
  have y1 := hBr.frozen 1
  have y2 := hBr.frozen 2
  have y3 := hBr.frozen 3
  simp only [zeroCells, List.getElem?_toArray, List.getElem?_cons_zero, List.getElem?_cons_succ] at z0 z1 z2 z3
  have k0 : w1.cell? ⟨w.heap.size + 1, 0, none⟩ = some (.string ⟨rest.toArray⟩) := hr1.cell 0
  have k1 : w1.cell? ⟨w.heap.size + 1, 1, none⟩ = some (.bool bad) := hr1.cell 1
  have hrl := hr1.lt
  have HBr := Lib.hid hBr
  clear hr1 hBr
  cases bad
  · cases rest with
    | nil => have := HBR.out; simp at this
    | cons c r =>
      clear HBR
      refine Lib.hid ?_
      go_wp2_with fail
      obtain ⟨W', hW', hB', hb', _⟩ := set4 (.int .i64 0) (.int .i64 0) (.string ⟨#[]⟩) (.slice none 0 0) HBr.out hgw
      rw [← hW']
      have hB2 := hB'.alloc (.cells #[.int .i64 x.kind, .int .i64 x.num, .string ⟨x.text.toArray⟩, .slice A9 x.args.length cap9] 34)
      have hb2 := hb'.alloc hb'.size (.cells #[.int .i64 x.kind, .int .i64 x.num, .string ⟨x.text.toArray⟩, .slice A9 x.args.length cap9] 34)
      generalize W'.alloc (.cells #[.int .i64 x.kind, .int .i64 x.num, .string ⟨x.text.toArray⟩, .slice A9 x.args.length cap9] 34) = W2 at hB2 hb2 ⊢
      have p0 := hB2.cell 0
      have p1 := hB2.cell 1
      have p2 := hB2.cell 2
      have p3 := hB2.cell 3
      exact bodyPost_ret (v := .tuple #[.agg #[.int .i64 0, .int .i64 0, .string ⟨#[]⟩, .slice none 0 0], .int .i64 10]) (by simp [results, Tryd.results10, go_sem, p0, p1, p2, p3]) rfl (UPost.zero hb2)
  · refine Lib.hid ?_
    go_wp2_with fail
    obtain ⟨W', hW', hB', hb', _⟩ := set4 (.int .i64 0) (.int .i64 0) (.string ⟨#[]⟩) (.slice none 0 0) HBr.out hgw
    rw [← hW']
    have hB2 := hB'.alloc (.cells #[.int .i64 x.kind, .int .i64 x.num, .string ⟨x.text.toArray⟩, .slice A9 x.args.length cap9] 34)
    have hb2 := hb'.alloc hb'.size (.cells #[.int .i64 x.kind, .int .i64 x.num, .string ⟨x.text.toArray⟩, .slice A9 x.args.length cap9] 34)
    generalize W'.alloc (.cells #[.int .i64 x.kind, .int .i64 x.num, .string ⟨x.text.toArray⟩, .slice A9 x.args.length cap9] 34) = W2 at hB2 hb2 ⊢
    have p0 := hB2.cell 0
    have p1 := hB2.cell 1
    have p2 := hB2.cell 2
    have p3 := hB2.cell 3
    exact bodyPost_ret (v := .tuple #[.agg #[.int .i64 0, .int .i64 0, .string ⟨#[]⟩, .slice none 0 0], .int .i64 10]) (by simp [results, Tryd.results10, go_sem, p0, p1, p2, p3]) rfl (UPost.zero hb2)
set_option maxRecDepth 100000 in
set_option maxHeartbeats 400000 in
theorem Value_read (s t : Bs) (te : Int) (x : V) (w : World) (he : Env w) (hl : s.length ≤ 16777216) (hv : Ds.valueF 40 s false = (x, [], false)) (ht : Ds.textF 40 x = (t, te)) (o : V × Int)
    (HO : Hid ((te = 0 → t = s → o = (x, 0)) ∧ (te ≠ 0 ∨ t ≠ s → o = (Ds.zeroV, 10)))) :
    Calls Tryd.prog 10 #[.string ⟨s.toArray⟩] w (UPost w o) := by
  have h8 := he.sz
  have hc := fun (W : World) (b : Nat) (hr : Rd W b s false) (hE : Env W) (hb8 : 8 ≤ b) => value_calls 40 b s false W hr hE hb8 hl (by omega)
  have hwf := valueF_wf 40 s false hl
  have hnd := Ds.valueF_nodes 40 s false
  rw [hv] at hc hwf hnd
  simp only at hwf hnd
  have hc2 : ∀ (W : World) (b : Nat), Rd W b s false → Env W → 8 ≤ b → Calls Tryd.prog 22 #[.pointer (some ⟨b, 0, none⟩), .int .i64 1] W fun e w' => ∃ (A9 : Option Addr) (cap9 : Nat), e = .returned (.agg #[.int .i64 x.kind, .int .i64 x.num, .string ⟨x.text.toArray⟩, .slice A9 x.args.length cap9]) ∧
      RV w' (fun k => W.heap.size ≤ k) x (.int .i64 x.kind) (.int .i64 x.num) (.string ⟨x.text.toArray⟩) (.slice A9 x.args.length cap9) ∧ Rd w' b [] false ∧ W.grownBy w' (some b) := fun W b hr hE hb8 =>
    (hc W b hr hE hb8).mono fun e w' ⟨c0, c1, c2, c3, he, hv, hr, hg⟩ => by
      obtain ⟨A9, cap9, rfl, rfl, rfl, rfl, _, _⟩ := hv.form
      exact ⟨A9, cap9, he, hv, hr, hg⟩
  have htx : ∀ (A9 : Option Addr) (cap9 : Nat) (S : Nat → Prop) (W : World), RV W S x (.int .i64 x.kind) (.int .i64 x.num) (.string ⟨x.text.toArray⟩) (.slice A9 x.args.length cap9) → Env W →
      Calls Tryd.prog 9 #[.agg #[.int .i64 x.kind, .int .i64 x.num, .string ⟨x.text.toArray⟩, .slice A9 x.args.length cap9]] W fun e w' => e = .returned (.tuple #[.string ⟨t.toArray⟩, .int .i64 te]) ∧ Below W.heap.size W w' := fun A9 cap9 S W hr hE => by
    have := Text_calls x S _ _ _ _ W hr hwf (by omega) hE
    rw [ht] at this
    exact this
  have HC := Lib.hid hc2
  have HE := Lib.hid he
  have HT := Lib.hid htx
  have hrd := rd_new w s
  have HRD := Lib.hid hrd
  clear hc hc2 he hv hl hwf hnd htx hrd ht
  go_enter Tryd.func10, Tryd.ntmps10
  go_wp2_with (go_at_call 22; refine (HC.out _ _ HRD.out ((HE.out.alloc _).alloc _) (by omega)).mono ?_; rintro e w1 ⟨A9, cap9, rfl, hv1, hr1, hg1⟩; refine Hid.out ?_)
  have hgw : Below w.heap.size w w1 := below_of_own (((Below.refl _ _).alloc (Nat.le_refl _) _).alloc (by simp) _) hg1 (by omega)
  have hBr : Blk w1 w.heap.size 34 zeroCells := ((Blk.new w 34 zeroCells).alloc _).grown hg1 (fun e => by injection e; omega)
  have k0 : w1.cell? ⟨w.heap.size + 1, 0, none⟩ = some (.string ⟨#[]⟩) := hr1.cell 0
  have k1 : w1.cell? ⟨w.heap.size + 1, 1, none⟩ = some (.bool false) := hr1.cell 1
  have hrl := hr1.lt
  have hE1 := HE.out.below hgw HE.out.sz
  have hv1' : RV w1 (fun k => w.heap.size < k) x (.int .i64 x.kind) (.int .i64 x.num) (.string ⟨x.text.toArray⟩) (.slice A9 x.args.length cap9) := RV.mono (fun k _ h => by simp at h; omega) _ hv1
  have HV1 := Lib.hid (hv1'.below ((Below.refl _ _).alloc (Nat.le_refl _) (.cells #[.int .i64 x.kind, .int .i64 x.num, .string ⟨x.text.toArray⟩, .slice A9 x.args.length cap9] 34)))
  have HE1 := Lib.hid (hE1.alloc (.cells #[.int .i64 x.kind, .int .i64 x.num, .string ⟨x.text.toArray⟩, .slice A9 x.args.length cap9] 34))
  have HBr := Lib.hid (hBr.alloc (.cells #[.int .i64 x.kind, .int .i64 x.num, .string ⟨x.text.toArray⟩, .slice A9 x.args.length cap9] 34))
  have hBx := Blk.new w1 34 #[.int .i64 x.kind, .int .i64 x.num, .string ⟨x.text.toArray⟩, .slice A9 x.args.length cap9]
  have HBx := Lib.hid hBx
  have hga := hgw.alloc hgw.size (.cells #[.int .i64 x.kind, .int .i64 x.num, .string ⟨x.text.toArray⟩, .slice A9 x.args.length cap9] 34)
  clear hr1 hBr hv1 hv1' hE1 hBx
  refine Lib.hid ?_
  go_wp2_with (go_at_call 9; refine (HT.out _ _ _ _ HV1.out HE1.out).mono ?_; rintro e w3 ⟨rfl, hb3⟩; refine Hid.out ?_)
  have HBr3 := Lib.hid (HBr.out.below hb3 HBr.out.lt)
  have HBx3 := Lib.hid (HBx.out.below hb3 HBx.out.lt)
  have HV3 := Lib.hid (HV1.out.below hb3)
  have hgw3 : Below w.heap.size w w3 := hga.trans (hb3.mono hga.size)
  have hz := HBr3.out.lt
  have z0 := HBr3.out.cell 0
  have z1 := HBr3.out.cell 1
  have z2 := HBr3.out.cell 2
  have z3 := HBr3.out.cell 3
  have y0 := HBr3.out.frozen 0
  have y1 := HBr3.out.frozen 1
  have y2 := HBr3.out.frozen 2
  have y3 := HBr3.out.frozen 3
  simp only [zeroCells, List.getElem?_toArray, List.getElem?_cons_zero, List.getElem?_cons_succ] at z0 z1 z2 z3
  have x0 : w3.cell? ⟨w1.heap.size, 0, none⟩ = some (.int .i64 x.kind) := HBx3.out.cell 0
  have x1 : w3.cell? ⟨w1.heap.size, 1, none⟩ = some (.int .i64 x.num) := HBx3.out.cell 1
  have x2 : w3.cell? ⟨w1.heap.size, 2, none⟩ = some (.string ⟨x.text.toArray⟩) := HBx3.out.cell 2
  have x3 : w3.cell? ⟨w1.heap.size, 3, none⟩ = some (.slice A9 x.args.length cap9) := HBx3.out.cell 3
  by_cases hte : te = 0
  · subst hte
    by_cases hts : t = s
    · subst hts
      refine Lib.hid ?_
      go_wp2_with fail
      obtain ⟨W', hW', hB', hb', hk'⟩ := set4 (.int .i64 x.kind) (.int .i64 x.num) (.string ⟨x.text.toArray⟩) (.slice A9 x.args.length cap9) HBr3.out hgw3
      rw [← hW']
      have p0 := hB'.cell 0
      have p1 := hB'.cell 1
      have p2 := hB'.cell 2
      have p3 := hB'.cell 3
      have ho := HO.out.1 trivial trivial
      subst ho
      exact bodyPost_ret (v := .tuple #[.agg #[.int .i64 x.kind, .int .i64 x.num, .string ⟨x.text.toArray⟩, .slice A9 x.args.length cap9], .int .i64 0]) (by simp [results, Tryd.results10, go_sem, p0, p1, p2, p3]) rfl
        ⟨_, _, _, _, rfl, RV.mono (fun k _ h => Nat.le_of_lt h) _ (RV.keep (fun k h _ => hk' k (by omega)) _ HV3.out), hb'⟩
    · have hts' : (t == s) = false := by simpa using hts
      have HTS := Lib.hid hts
      clear hts
      refine Lib.hid ?_
      go_wp2_with fail
      obtain ⟨W', hW', hB', hb', _⟩ := set4 (.int .i64 0) (.int .i64 0) (.string ⟨#[]⟩) (.slice none 0 0) HBr3.out hgw3
      rw [← hW']
      have p0 := hB'.cell 0
      have p1 := hB'.cell 1
      have p2 := hB'.cell 2
      have p3 := hB'.cell 3
      have ho := HO.out.2 (Or.inr HTS.out)
      subst ho
      exact bodyPost_ret (v := .tuple #[.agg #[.int .i64 0, .int .i64 0, .string ⟨#[]⟩, .slice none 0 0], .int .i64 10]) (by simp [results, Tryd.results10, go_sem, p0, p1, p2, p3]) rfl (UPost.zero hb')
  · have hne : (te != 0) = true := by rw [bne_iff_ne]; exact hte
    have HTE := Lib.hid hte
    clear hte
    refine Lib.hid ?_
    go_wp2_with fail
    obtain ⟨W', hW', hB', hb', _⟩ := set4 (.int .i64 0) (.int .i64 0) (.string ⟨#[]⟩) (.slice none 0 0) HBr3.out hgw3
    rw [← hW']
    have p0 := hB'.cell 0
    have p1 := hB'.cell 1
    have p2 := hB'.cell 2
    have p3 := hB'.cell 3
    have ho := HO.out.2 (Or.inl HTE.out)
    subst ho
    exact bodyPost_ret (v := .tuple #[.agg #[.int .i64 0, .int .i64 0, .string ⟨#[]⟩, .slice none 0 0], .int .i64 10]) (by simp [results, Tryd.results10, go_sem, p0, p1, p2, p3]) rfl (UPost.zero hb')

/-- deed.Value -/
theorem Value_calls (s : Bs) (w : World) (he : Env w) (hl : s.length ≤ 16777216) : Calls Tryd.prog 10 #[.string ⟨s.toArray⟩] w (UPost w (Ds.valF s)) := by
  rcases hv : Ds.valueF 40 s false with ⟨x, rest, bad⟩
  unfold Ds.valF
  rw [hv]
  by_cases hbr : (bad || !rest.isEmpty) = true
  · rw [if_pos hbr]
    exact Value_bad s rest x bad w he hl hv hbr
  · rw [if_neg hbr]
    have h2 : bad = false ∧ rest = [] := by
      cases bad <;> cases rest <;> simp at hbr ⊢
    obtain ⟨rfl, rfl⟩ := h2
    rcases ht : Ds.textF 40 x with ⟨t, te⟩
    refine Value_read s t te x w he hl hv ht _ (Lib.hid ⟨fun h1 h2 => ?_, fun h => ?_⟩)
    · rw [if_pos ⟨h1, h2⟩]
    · rw [if_neg (fun hh => by rcases h with h | h; exact h hh.1; exact h hh.2)]
end Go.Proofs.YtbfiejgdgdlciaaDoor
