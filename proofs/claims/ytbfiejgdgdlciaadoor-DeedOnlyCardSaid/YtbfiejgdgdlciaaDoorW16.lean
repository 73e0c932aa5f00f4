/-
  deed.parse, call by call.
-/
import Derived.Test.YtbfiejgdgdlciaaDoorW15
namespace Go.Proofs.YtbfiejgdgdlciaaDoor
open Go.RowKit
open Ds (V Bs D)

theorem Blk.lt_of_alloc {w : World} {g : Nat} {t : TypeId} {cs : Array Value} {o : Obj} (h : Blk (w.alloc o) g t cs) : g ≤ w.heap.size := by
  have := h.lt
  simp at this; omega

theorem PB.drew {w W : World} {b : Nat} {k a b' : Int} {t : Bs} {u : Value} (h : PB w b k a b' t u W) : PB w b k a b' t u W.drew := ⟨h.1, h.2.1, h.2.2.drew⟩

set_option maxRecDepth 100000 in
set_option maxHeartbeats 1000000 in
theorem parse_main (t : Bs) (r : List Bs) (g cap n : Nat) (w : World) (kd : Int) (nn : Nat) (ht : Bool) (hn : n = r.length + 1) (hn2 : 2 ≤ n) (hcap : n ≤ cap) (hl : n ≤ 16777217) (hgl : g < w.heap.size)
   (hc0 : w.cell? ⟨g, 0, none⟩ = some (.string ⟨t.toArray⟩)) (hcr : ∀ i x, r[i]? = some x → w.cell? ⟨g, 1 + i, none⟩ = some (.string ⟨x.toArray⟩) ∧ x.length ≤ 16777216)
   (HK : Hid (∀ W, Env W → Calls Tryd.prog 31 #[.string ⟨t.toArray⟩] W fun e w' => e = .returned (.int .i64 kd) ∧ Below W.heap.size W w'))
   (HN : Hid (∀ W, Calls Tryd.prog 15 #[.int .i64 kd] W fun e w' => e = .returned (.int .i64 (nn : Nat)) ∧ W = w'))
   (HT : Hid (∀ W, Calls Tryd.prog 17 #[.int .i64 kd] W fun e w' => e = .returned (.bool ht) ∧ W = w'))
   (he : Env w) (hk : (kd == 0) = false) (hnn : nn ≤ r.length) (hnn2 : nn ≤ 2) (F : Option D) (HF : Hid (Ds.numP r kd nn 0 0 0 = F)) (HTF : Hid (Ds.hasTextF kd = ht)) :
    Calls Tryd.prog 19 #[.slice (some ⟨g, 0, none⟩) n cap] w (PPost w F) := by
  have HE := Lib.hid he
  have hca : ∀ o : Obj, (w.alloc o).cell? ⟨g, 0, none⟩ = some (.string ⟨t.toArray⟩) := fun o => by rw [World.cell?_alloc_lt w o _ (by simpa using hgl)]; exact hc0
  have HCR := Lib.hid hcr
  have HNE := Lib.hid hn
  have hn0 : 0 < n := by omega
  have hn1 : (1 : Int) ≤ n := by omega
  have hnn3 : (nn : Int) ≤ (n : Int) - 1 := by omega
  have hcp : (n : Int) ≤ cap := by omega
  have hcp2 : 1 < cap := by omega
  clear he hn hcr hc0
  go_enter Tryd.func19, Tryd.ntmps19
  go_wp2_with (first | (go_at_call 31; refine (HK.out _ (HE.out.alloc _)).mono ?_; rintro e w1 ⟨rfl, hb1⟩; refine Hid.out ?_))
  have hbw1 : Below w.heap.size w w1 := ((Below.refl _ _).alloc (Nat.le_refl _) (.cells zeroD5 24)).trans (hb1.mono (by simp))
  have hPB : PB w w1.heap.size kd 0 0 [] (.slice none 0 0) (w1.alloc (.cells #[.int .i64 kd, .int .i64 0, .int .i64 0, .string ⟨#[]⟩, .slice none 0 0] 24)) :=
    ⟨((Blk.new w 24 zeroD5).below hb1 (by simp)).alloc _, Blk.new _ _ _, hbw1.alloc hbw1.size _⟩
  have hwb : w.heap.size < w1.heap.size := by have := hb1.size; simp at this; omega
  have k0 : (w1.alloc (.cells #[.int .i64 kd, .int .i64 0, .int .i64 0, .string ⟨#[]⟩, .slice none 0 0] 24)).cell? ⟨w1.heap.size, 0, none⟩ = some (.int .i64 kd) := hPB.2.1.cell 0
  have HPB := Lib.hid hPB
  clear hPB hbw1 hb1
  refine Lib.hid ?_
  go_wp2_with (first | (go_at_call 15; refine (HN.out _).mono ?_; rintro e w9 ⟨rfl, rfl⟩))
  go_loopw [5, 6, 7, 34] (fun _ _ _ v wr => ∃ (i : Nat) (a b : Int), i ≤ nn ∧ v = .int .i64 i ∧ PB w w1.heap.size kd a b [] (.slice none 0 0) wr ∧ Hid (Ds.numP r kd (nn - i) i a b = F)) (fun _ _ _ v _ => nn - (intOf v).toNat)
  case atStart => exact ⟨0, 0, 0, Nat.zero_le _, rfl, HPB.out, HF⟩
  case round =>
    obtain ⟨i, a, b, hi, rfl, hP, HS⟩ := hrel
    have hEr := HE.out.below hP.2.2 HE.out.sz
    have HER := Lib.hid hEr
    clear hEr k0
    have n0 : (0 : Int) ≤ (i : Int) := Int.natCast_nonneg _
    have n9 : (0 : Int) ≤ (nn : Int) := Int.natCast_nonneg _
    by_cases hlt : i < nn
    · obtain ⟨x, hx⟩ : ∃ x, r[i]? = some x := ⟨r[i]'(by omega), List.getElem?_eq_getElem (by omega)⟩
      have hcx := HCR.out i x hx
      have kx : wr.cell? ⟨g, 1 + i, none⟩ = some (.string ⟨x.toArray⟩) := (World.cell?_of_block (w := w) (a := ⟨g, _, none⟩) (hP.2.2.block g hgl)).trans hcx.1
      have hxl := hcx.2
      rcases hat : Ds.atoiN x with ⟨v, bad⟩
      have hs2 := HS.out
      have hsub : nn - i = (nn - (i + 1)) + 1 := by omega
      have hgd : r.getD i [] = x := by rw [List.getD_eq_getElem?_getD, hx]; rfl
      rw [hsub] at hs2
      simp only [Ds.numP, hgd, hat] at hs2
      have HPR := Lib.hid hP
      obtain ⟨hB0, hB1, hbb⟩ := hP
      have z1 := hB1.lt
      have y1 := hB1.cell 1
      have y2 := hB1.cell 2
      have f1 := hB1.frozen 1
      have f2 := hB1.frozen 2
      have i1 : (i : Int) < (n : Int) - 1 := by omega
      have i2 : (i : Int) < (nn : Int) := by omega
      cases bad with
      | true =>
        have hA : ∀ W, Env W → Calls Tryd.prog 32 #[.string ⟨x.toArray⟩] W fun e w' => ∃ N, e = .returned (.tuple #[.int .i64 v, .iface 94 (.pointer (some ⟨N, 0, none⟩))]) ∧ Below W.heap.size W w' := fun W hW => atoi_err_calls ⟨x.toArray⟩ (by simp [ByteArray.size]; omega) v (by simpa using hat) W hW
        have HA := Lib.hid hA
        have HF2 := Lib.hid hs2
        clear hA hs2 hat hx hcx hxl hgd hsub
        go_wp2_with (first | (go_at_call 32; refine (HA.out _ HER.out).mono ?_; rintro e w2 ⟨N, rfl, hb2⟩; refine Hid.out ?_))
        have hP2 := HPR.out.below hb2
        obtain ⟨hz, _, hb⟩ := hP2
        have hzl := hz.lt
        have z0 := hz.cell 0
        have z1 := hz.cell 1
        have z2 := hz.cell 2
        have z3 := hz.cell 3
        have z4 := hz.cell 4
        have y0 := hz.frozen 0
        have y1 := hz.frozen 1
        have y2 := hz.frozen 2
        have y3 := hz.frozen 3
        have y4 := hz.frozen 4
        simp only [zeroD5, List.getElem?_toArray, List.getElem?_cons_zero, List.getElem?_cons_succ] at z0 z1 z2 z3 z4
        refine Lib.hid ?_
        go_wp2_with fail
        obtain ⟨W', hW', hB', hb', _⟩ := set5 (.int .i64 0) (.int .i64 0) (.int .i64 0) (.string ⟨#[]⟩) (.slice none 0 0) hz hb
        rw [← hW']
        have p0 := hB'.cell 0
        have p1 := hB'.cell 1
        have p2 := hB'.cell 2
        have p3 := hB'.cell 3
        have p4 := hB'.cell 4
        have ho := HF2.out
        simp only [if_true] at ho
        subst ho
        exact bodyPost_ret (v := .tuple #[.agg #[.int .i64 0, .int .i64 0, .int .i64 0, .string ⟨#[]⟩, .slice none 0 0], .bool false]) (by simp [results, Tryd.results19, go_sem, p0, p1, p2, p3, p4]) rfl (PPost.zero hb')
      | false =>
        have hA : ∀ W, Calls Tryd.prog 32 #[.string ⟨x.toArray⟩] W fun e w' => e = .returned (.tuple #[.int .i64 v, .nilIface]) ∧ Below W.heap.size W w' := fun W => atoi_ok_calls ⟨x.toArray⟩ (by simp [ByteArray.size]; omega) v (by simpa using hat) W
        have HA := Lib.hid hA
        have HF2 := Lib.hid hs2
        clear hA hs2 hat hx hcx hxl hgd hsub
        by_cases hi0 : i = 0
        · subst hi0
          go_wp2_with (first | (go_at_call 32; refine (HA.out _).mono ?_; rintro e w2 ⟨rfl, hb2⟩; refine Hid.out ?_))
          have hP2 := HPR.out.below hb2
          have hzl := hP2.2.1.lt
          have z1 := hP2.2.1.cell 1
          have y1 := hP2.2.1.frozen 1
          have hP3 := hP2.setA hwb v
          have HP3 := Lib.hid hP3
          clear hP2 hP3
          refine Lib.hid ?_
          go_wp2_with fail
          go_roundw
          case rel => exact ⟨1, v, b, by omega, by go_num, HP3.out, by simpa using HF2⟩
          case measure => simp [intOf]; omega
        · have hi1 : i = 1 := by omega
          subst hi1
          go_wp2_with (first | (go_at_call 32; refine (HA.out _).mono ?_; rintro e w2 ⟨rfl, hb2⟩; refine Hid.out ?_))
          have hP2 := HPR.out.below hb2
          have hzl := hP2.2.1.lt
          have z2 := hP2.2.1.cell 2
          have y2 := hP2.2.1.frozen 2
          have hP3 := hP2.setB hwb v
          have HP3 := Lib.hid hP3
          clear hP2 hP3
          refine Lib.hid ?_
          go_wp2_with fail
          go_roundw
          case rel => exact ⟨2, a, v, by omega, by go_num, HP3.out, by simpa using HF2⟩
          case measure => simp [intOf]; omega
    · have hie : i = nn := by omega
      have hs2 := HS.out
      rw [hie, Nat.sub_self] at hs2
      simp only [Ds.numP] at hs2
      have HF2 := Lib.hid hs2
      have HPR := Lib.hid hP
      have k0 : wr.cell? ⟨w1.heap.size, 0, none⟩ = some (.int .i64 kd) := hP.2.1.cell 0
      have hlast : ¬ (i : Int) < (nn : Int) := by omega
      clear hs2 hP hlt hi hie HS
      go_upto_region 15 with fail
      go_cut [0] (fun v wx => ∃ A, v = .slice A (n - 1 - nn) (cap - 1 - nn) ∧ (n - 1 - nn ≠ 0 → A = some ⟨g, 1 + nn, none⟩) ∧ wx = wr)
      case first =>
        by_cases hcn : cap - 1 = nn
        · go_wp2_with (first | (go_at_call 15; refine (HN.out _).mono ?_; rintro e w9 ⟨rfl, rfl⟩))
          go_meet
          exact ⟨some ⟨g, 1, none⟩, by rw [hcn, Nat.sub_self], fun h => by omega, rfl⟩
        · go_wp2_with (first | (go_at_call 15; refine (HN.out _).mono ?_; rintro e w9 ⟨rfl, rfl⟩))
          go_meet
          exact ⟨_, rfl, fun h => rfl, rfl⟩
      case rest =>
        obtain ⟨A, rfl, hA, rfl⟩ := hcut
        have HAA := Lib.hid hA
        have hm : n - 1 - nn = (r.drop nn).length := by rw [List.length_drop, HNE.out]; omega
        have hmc : (r.drop nn).length ≤ cap - 1 - nn := by omega
        have hml : (r.drop nn).length ≤ 16777217 := by omega
        have hcl : ∀ i x, (r.drop nn)[i]? = some x → w.cell? ⟨g, 1 + nn + i, none⟩ = some (.string ⟨x.toArray⟩) ∧ x.length ≤ 16777216 := fun i x hx => by
          rw [List.getElem?_drop] at hx
          have := HCR.out (nn + i) x hx
          rw [show 1 + (nn + i) = 1 + nn + i by omega] at this
          exact this
        have HCL := Lib.hid hcl
        rw [hm] at HAA
        rw [hm]
        clear hA hm hcl HCR HN HF HPB hnn hnn2 hnn3 hcap hcp hcp2 hn0 hn1 hn2 hl HNE n0 n9 hca
        generalize r.drop nn = l at *
        generalize cap - 1 - nn = cc at *
        generalize 1 + nn = o at *
        generalize w1.heap.size = gb at *
        have hl0 : (0 : Int) ≤ (l.length : Int) := Int.natCast_nonneg _
        go_upto_if 62 with (go_at_call 17; refine (HT.out _).mono ?_; rintro e w9 ⟨rfl, rfl⟩)
        go_cut [0] (fun v wx => ∃ (A' : Option Addr) (o' cc' : Nat) (l' : List Bs) (tt : Bs), v = .slice A' l'.length cc' ∧ l'.length ≤ cc' ∧ l'.length ≤ 16777217 ∧ (l'.length ≠ 0 → A' = some ⟨g, o', none⟩) ∧ Hid (∀ i x, l'[i]? = some x → w.cell? ⟨g, o' + i, none⟩ = some (.string ⟨x.toArray⟩) ∧ x.length ≤ 16777216) ∧
            PB w gb kd a b tt (.slice none 0 0) wx ∧ Hid (Ds.moreP kd a b tt [] l' = F))
        case first =>
          cases ht with
          | false =>
            have h1 := HF2.out
            rw [Ds.textP_eq, HTF.out, if_neg (by simp)] at h1
            go_wp2_with fail
            go_meet
            exact ⟨A, o, cc, l, [], rfl, hmc, hml, HAA.out, HCL, HPR.out, Lib.hid h1⟩
          | true =>
            have h1 := HF2.out
            rw [Ds.textP_eq, HTF.out, if_pos rfl] at h1
            cases l with
            | nil =>
              simp only at h1
              have hz := HPR.out.1
              have hb := HPR.out.2.2
              have hzl := hz.lt
              have z0 := hz.cell 0
              have z1 := hz.cell 1
              have z2 := hz.cell 2
              have z3 := hz.cell 3
              have z4 := hz.cell 4
              have y0 := hz.frozen 0
              have y1 := hz.frozen 1
              have y2 := hz.frozen 2
              have y3 := hz.frozen 3
              have y4 := hz.frozen 4
              simp only [zeroD5, List.getElem?_toArray, List.getElem?_cons_zero, List.getElem?_cons_succ] at z0 z1 z2 z3 z4
              have HF3 := Lib.hid h1
              have HZ := Lib.hid hz
              have HB := Lib.hid hb
              clear h1 hz hb HCL HAA
              go_wp2_with fail
              obtain ⟨W', hW', hB', hb', _⟩ := set5 (.int .i64 0) (.int .i64 0) (.int .i64 0) (.string ⟨#[]⟩) (.slice none 0 0) HZ.out HB.out
              rw [← hW']
              have p0 := hB'.cell 0
              have p1 := hB'.cell 1
              have p2 := hB'.cell 2
              have p3 := hB'.cell 3
              have p4 := hB'.cell 4
              rw [← HF3.out]
              exact bodyPost_ret (v := .tuple #[.agg #[.int .i64 0, .int .i64 0, .int .i64 0, .string ⟨#[]⟩, .slice none 0 0], .bool false]) (by simp [results, Tryd.results19, go_sem, p0, p1, p2, p3, p4]) rfl (PPost.zero hb')
            | cons x l =>
              simp only at h1
              have HF3 := Lib.hid h1
              obtain rfl := HAA.out (by simp)
              have hx := HCL.out 0 x rfl
              have kx : wc.cell? ⟨g, o, none⟩ = some (.string ⟨x.toArray⟩) := (World.cell?_of_block (w := w) (a := ⟨g, _, none⟩) (HPR.out.2.2.block g hgl)).trans (by simpa using hx.1)
              have hB1 := HPR.out.2.1
              have hbl := hB1.lt
              have k3 := hB1.cell 3
              have f3 := hB1.frozen 3
              have HP3 := Lib.hid (HPR.out.setT hwb x)
              have hlc : (x :: l).length = l.length + 1 := by simp
              rw [hlc] at hmc hml hl0
              rw [hlc]
              have hl1 : (0 : Int) < ((l.length + 1 : Nat) : Int) := by omega
              have hl2 : (((l.length + 1 : Nat) : Int) == 0) = false := by simp; omega
              have HCL2 : Hid (∀ i y, l[i]? = some y → w.cell? ⟨g, o + 1 + i, none⟩ = some (.string ⟨y.toArray⟩) ∧ y.length ≤ 16777216) := Lib.hid fun i y hy => by
                have := HCL.out (i + 1) y (by simpa using hy)
                rw [show o + (i + 1) = o + 1 + i by omega] at this
                exact this
              clear h1 hx hB1 HCL HAA hlc
              by_cases hc1 : cc = 1
              · subst hc1
                go_upto_region 19 with fail
                have hl3 : (1 : Int) ≤ (l.length : Int) + 1 := by omega
                go_region_law (fail)
                all_goals
                  go_wp2_with fail
                  go_meet
                  have e0 : l.length = 0 := by omega
                  exact ⟨some ⟨g, o, none⟩, o + 1, 0, l, x, by rw [e0], by omega, by omega, fun h => absurd e0 h, HCL2, HP3.out.drew, HF3⟩
              · go_upto_region 19 with fail
                have hl3 : (1 : Int) ≤ (l.length : Int) + 1 := by omega
                go_region_law (fail)
                all_goals
                  go_wp2_with fail
                  go_meet
                  exact ⟨some ⟨g, o + 1, none⟩, o + 1, cc - 1, l, x, by simp, by omega, by omega, fun h => rfl, HCL2, HP3.out.drew, HF3⟩
        case rest =>
          clear HF2 HPR HER HAA HCL hmc hml k0 hl0
          obtain ⟨A', o', cc', l', tt, rfl, hmc, hml, hA', HCL, hP, HF2⟩ := hcut
          have HAA := Lib.hid hA'
          have hPS := PS.start hP
          have HPS := Lib.hid hPS
          clear hA' hP hPS
          obtain ⟨i0, hi0, hz0, hz1, hz2⟩ := info_parts val_info
          have HI := Lib.hid hi0
          have HZ := Lib.hid (And.intro hz0 (And.intro hz1 hz2))
          clear hi0 hz0 hz1 hz2
          go_wp2_with fail
          go_loopw [9, 10, 11, 75] (fun _ _ _ v wr => ∃ (j : Nat) (xs : List V) (A2 : Option Addr) (c2 : Nat), j ≤ l'.length ∧ v = .int .i64 j ∧ xs.length = j ∧ PS w gb kd a b tt xs (.slice A2 xs.length c2) wr ∧ Hid (Ds.moreP kd a b tt xs (l'.drop j) = F)) (fun _ _ _ v _ => l'.length - (intOf v).toNat)
          case atStart => exact ⟨0, [], none, 0, Nat.zero_le _, rfl, rfl, HPS.out, HF2⟩
          case round =>
            obtain ⟨j, xs, A2, c2, hj, rfl, hxj, hPS, HS⟩ := hrel
            subst hxj
            have HPS := Lib.hid hPS
            have n0 : (0 : Int) ≤ (xs.length : Int) := Int.natCast_nonneg _
            by_cases hlt : xs.length < l'.length
            · obtain rfl := HAA.out (by omega)
              obtain ⟨s, hs⟩ : ∃ s, l'[xs.length]? = some s := ⟨l'[xs.length], List.getElem?_eq_getElem hlt⟩
              have hcx := HCL.out xs.length s hs
              obtain ⟨cs, hP, hown, hRC⟩ := hPS
              have kx : wr.cell? ⟨g, o' + xs.length, none⟩ = some (.string ⟨s.toArray⟩) := (World.cell?_of_block (w := w) (a := ⟨g, _, none⟩) (hP.2.2.block g hgl)).trans hcx.1
              have hEr := HE.out.below hP.2.2 HE.out.sz
              have hs2 := HS.out
              have hdj : l'.drop xs.length = s :: l'.drop (xs.length + 1) := by
                rw [List.drop_eq_getElem_cons hlt]
                rw [List.getElem?_eq_getElem hlt] at hs
                injection hs with hs
                rw [hs]
              rw [hdj, Ds.moreP_cons] at hs2
              have hval := Value_calls s wr hEr hcx.2
              rcases hvf : Ds.valF s with ⟨x1, er⟩
              rw [hvf] at hval hs2
              simp only at hs2
              have hv2 : Calls Tryd.prog 10 #[.string ⟨s.toArray⟩] wr fun e w' => ∃ (A9 : Option Addr) (cap9 : Nat), e = .returned (.tuple #[.agg #[.int .i64 x1.kind, .int .i64 x1.num, .string ⟨x1.text.toArray⟩, .slice A9 x1.args.length cap9], .int .i64 er]) ∧
                  RV w' (fun k => wr.heap.size ≤ k) x1 (.int .i64 x1.kind) (.int .i64 x1.num) (.string ⟨x1.text.toArray⟩) (.slice A9 x1.args.length cap9) ∧ Below wr.heap.size wr w' :=
                hval.mono fun e w' ⟨c0, c1, c2, c3, he, hv, hb⟩ => by
                  obtain ⟨A9, cap9, rfl, rfl, rfl, rfl, _, _⟩ := hv.form
                  exact ⟨A9, cap9, he, hv, hb⟩
              have HV := Lib.hid hv2
              have HS2 := Lib.hid hs2
              have HP := Lib.hid hP
              have HOW := Lib.hid hown
              have HRC := Lib.hid hRC
              clear hval hv2 hs2 hP hown hRC hs hcx hEr hdj hvf
              go_wp2_with (first | (go_at_call 10; refine HV.out.mono ?_; rintro e w2 ⟨A9, cap9, rfl, hv9, hb9⟩; refine Hid.out ?_))
              have HV9 := Lib.hid hv9
              have HB9 := Lib.hid hb9
              have hP2 := HP.out.below hb9
              have hB1 := hP2.2.1.alloc (.cells #[.int .i64 x1.kind, .int .i64 x1.num, .string ⟨x1.text.toArray⟩, .slice A9 x1.args.length cap9] 34)
              have hz := hP2.1.alloc (.cells #[.int .i64 x1.kind, .int .i64 x1.num, .string ⟨x1.text.toArray⟩, .slice A9 x1.args.length cap9] 34)
              have hb := hP2.2.2.alloc hP2.2.2.size (.cells #[.int .i64 x1.kind, .int .i64 x1.num, .string ⟨x1.text.toArray⟩, .slice A9 x1.args.length cap9] 34)
              clear hP2 hv9 hb9
              by_cases her : er = 0
              · subst her
                have hs2 := HS2.out
                rw [if_pos rfl] at hs2
                have HS3 := Lib.hid hs2
                have hBx := Blk.new w2 34 #[.int .i64 x1.kind, .int .i64 x1.num, .string ⟨x1.text.toArray⟩, .slice A9 x1.args.length cap9]
                have q4 := hB1.cell 4
                have x0 := hBx.cell 0
                have x1' := hBx.cell 1
                have x2 := hBx.cell 2
                have x3 := hBx.cell 3
                simp only [List.getElem?_toArray, List.getElem?_cons_zero, List.getElem?_cons_succ] at q4 x0 x1' x2 x3
                have hown2 : ((w2.alloc (.cells #[.int .i64 x1.kind, .int .i64 x1.num, .string ⟨x1.text.toArray⟩, .slice A9 x1.args.length cap9] 34)).alloc (.cells #[.int .i64 x1.kind, .int .i64 x1.num, .string ⟨x1.text.toArray⟩, .slice A9 x1.args.length cap9] 34)).ownsRow (gb + 1) 34 4 (.slice A2 xs.length c2) xs.length cs := ((own_below HOW.out HB9.out).alloc _).alloc _
                have hgb2 : gb ≤ w2.heap.size := hB1.lt_of_alloc
                have hbx2 := hB1.alloc (.cells #[.int .i64 x1.kind, .int .i64 x1.num, .string ⟨x1.text.toArray⟩, .slice A9 x1.args.length cap9] 34)
                have hob : some gb ≠ (Value.slice A2 xs.length c2).ownBlock := fun e => by have := (HOW.out.lt gb e.symm).1; omega
                have HOB := Lib.hid hob
                have HBX2 := Lib.hid hbx2
                have HOW2 := Lib.hid hown2
                clear hs2 hz hb hB1 hBx hown2 hbx2 hob
                refine Lib.hid ?_
                go_wp2_with (at_builtin; refine wpList_append_lies _ rfl (.tmp 88) (.tmp 90) 22 rfl (gb + 1) 34 i0 _ 4 56 Tryd.underlying22 HI.out HZ.out.1 HZ.out.2.1 HZ.out.2.2 rfl (by decide) (.slice A2 xs.length c2) xs.length cs rfl HOW2.out ⟨w2.heap.size + 1, 0, none⟩ 1 1 [.int .i64 x1.kind, .int .i64 x1.num, .string ⟨x1.text.toArray⟩, .slice A9 x1.args.length cap9] rfl rfl (World.news_of_block (cs := #[.int .i64 x1.kind, .int .i64 x1.num, .string ⟨x1.text.toArray⟩, .slice A9 x1.args.length cap9]) (t := 34) (fr := (0, 0)) (by have := heap_alloc_new (w2.alloc (.cells #[.int .i64 x1.kind, .int .i64 x1.num, .string ⟨x1.text.toArray⟩, .slice A9 x1.args.length cap9] 34)) (.cells #[.int .i64 x1.kind, .int .i64 x1.num, .string ⟨x1.text.toArray⟩, .slice A9 x1.args.length cap9] 34); simpa using this)) (by simp [Value.oneCell']) (by decide) (by simp only [maxLen]; omega) (by omega) (by simp; omega) (w2.heap.size + 1 + 1) (by simp) ?_; intro g9 cg9 w10 hown10 hg10 hat10 hlt10; refine Hid.out ?_)
                have hB10 := HBX2.out.grown hg10 HOB.out
                have y4 : w10.cell? ⟨gb, 4, none⟩ = some (.slice A2 xs.length c2) := hB10.cell 4
                have f4 : w10.frozen? ⟨gb, 4, none⟩ = false := hB10.frozen 4
                have hl10 := hB10.lt
                clear hB10
                refine Lib.hid ?_
                go_wp2_with fail
                go_roundw
                case rel =>
                  have h1 := PS.step hwb rfl HP.out HOW.out HRC.out HV9.out HB9.out hown10 hg10 (by rcases hat10 with h | h; exact Or.inl h; exact Or.inr (by omega))
                  refine ⟨xs.length + 1, xs ++ [x1], some ⟨g9, 0, none⟩, cg9, by omega, by go_num, by simp, ?_, HS3⟩
                  have e9 : (xs ++ [x1]).length = xs.length + 1 := by simp
                  rw [e9]
                  exact h1
                case measure => simp [intOf]; omega
              · have hne : (er != 0) = true := by rw [bne_iff_ne]; exact her
                have hs2 := HS2.out
                rw [if_neg her] at hs2
                have HS3 := Lib.hid hs2
                have hzl := hz.lt
                have z0 := hz.cell 0
                have z1 := hz.cell 1
                have z2 := hz.cell 2
                have z3 := hz.cell 3
                have z4 := hz.cell 4
                have y0 := hz.frozen 0
                have y1 := hz.frozen 1
                have y2 := hz.frozen 2
                have y3 := hz.frozen 3
                have y4 := hz.frozen 4
                simp only [zeroD5, List.getElem?_toArray, List.getElem?_cons_zero, List.getElem?_cons_succ] at z0 z1 z2 z3 z4
                have HZZ := Lib.hid hz
                have HBB := Lib.hid hb
                clear hs2 her hz hb hB1
                refine Lib.hid ?_
                go_wp2_with fail
                obtain ⟨W', hW', hB', hb', _⟩ := set5 (.int .i64 0) (.int .i64 0) (.int .i64 0) (.string ⟨#[]⟩) (.slice none 0 0) HZZ.out HBB.out
                rw [← hW']
                have p0 := hB'.cell 0
                have p1 := hB'.cell 1
                have p2 := hB'.cell 2
                have p3 := hB'.cell 3
                have p4 := hB'.cell 4
                rw [← HS3.out]
                exact bodyPost_ret (v := .tuple #[.agg #[.int .i64 0, .int .i64 0, .int .i64 0, .string ⟨#[]⟩, .slice none 0 0], .bool false]) (by simp [results, Tryd.results19, go_sem, p0, p1, p2, p3, p4]) rfl (PPost.zero hb')
            · have hje : xs.length = l'.length := by omega
              have hs2 := HS.out
              rw [hje, List.drop_length, Ds.moreP_nil] at hs2
              have HS2 := Lib.hid hs2
              clear hs2
              obtain ⟨hz, hB1, hb⟩ := hPS.choose_spec.1
              have hzl := hz.lt
              have z0 := hz.cell 0
              have z1 := hz.cell 1
              have z2 := hz.cell 2
              have z3 := hz.cell 3
              have z4 := hz.cell 4
              have y0 := hz.frozen 0
              have y1 := hz.frozen 1
              have y2 := hz.frozen 2
              have y3 := hz.frozen 3
              have y4 := hz.frozen 4
              have hBl := hB1.lt
              have q0 := hB1.cell 0
              have q1 := hB1.cell 1
              have q2 := hB1.cell 2
              have q3 := hB1.cell 3
              have q4 := hB1.cell 4
              simp only [zeroD5, List.getElem?_toArray, List.getElem?_cons_zero, List.getElem?_cons_succ] at z0 z1 z2 z3 z4 q0 q1 q2 q3 q4
              have hnl : ¬ (xs.length : Int) < (l'.length : Int) := by omega
              clear hz hB1 hb hPS hlt hj hje
              go_wp2_with fail
              obtain ⟨W', hW', hB', hfin⟩ := PS.fin hwb HPS.out
              rw [← hW']
              have p0 := hB'.cell 0
              have p1 := hB'.cell 1
              have p2 := hB'.cell 2
              have p3 := hB'.cell 3
              have p4 := hB'.cell 4
              rw [← HS2.out]
              exact bodyPost_ret (v := .tuple #[.agg #[.int .i64 kd, .int .i64 a, .int .i64 b, .string ⟨tt.toArray⟩, .slice A2 xs.length c2], .bool true]) (by simp [results, Tryd.results19, go_sem, p0, p1, p2, p3, p4]) rfl hfin
end Go.Proofs.YtbfiejgdgdlciaaDoor
