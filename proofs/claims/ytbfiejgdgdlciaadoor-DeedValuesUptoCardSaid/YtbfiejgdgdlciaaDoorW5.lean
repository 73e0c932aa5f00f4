/-
  A DEED AS A LINE: Print, call by call.
-/
import Derived.Test.YtbfiejgdgdlciaaDoorW4
import Derived.Deep.DeepCutAuto
namespace Go.Proofs.YtbfiejgdgdlciaaDoor
open Go.RowKit
open Ds (V Bs D)

def strs (l : List Bs) : List Value := l.map fun x => .string ⟨x.toArray⟩

theorem own_one (w : World) (base g : Nat) (u : Value) (e : TypeId) (hg : w.heap.size = g) (hb : base ≤ g) : (w.alloc (.cells #[u] e)).drew.ownsRow base e 1 (.slice (some ⟨g, 0, none⟩) 1 1) 1 [u] := by
  subst hg
  exact World.ownsRow_lit (base := base) w #[u] 1 hb (by simp [maxLen]) rfl

set_option maxRecDepth 100000 in
set_option maxHeartbeats 400000 in
theorem print_good (m : Nat) (k a b : Int) (hkm : k = (m : Int) + 1) (t : Bs) (l : List V) (A : Option Addr) (cap : Nat) (lo : Nat → Prop) (w : World) (hR : RL w lo A 0 l) (hx : Ds.wfL l) (hn : Ds.nodesL l ≤ 33554432) (he : Env w)
    (hm : m < 13) (hr : Ds.rightF ⟨k, a, b, t, l⟩ = true) (ha : -9223372036854775808 ≤ a ∧ a ≤ 9223372036854775807) (hb : -9223372036854775808 ≤ b ∧ b ≤ 9223372036854775807) (hll : l.length ≤ 6) (htl : t.length ≤ 9223372036854775807) :
    Calls Tryd.prog 7 #[.agg #[.int .i64 k, .int .i64 a, .int .i64 b, .string ⟨t.toArray⟩, .slice A l.length cap]] w fun e w' =>
      e = .returned (.tuple #[.string ⟨(Ds.printF ⟨k, a, b, t, l⟩).1.toArray⟩, .int .i64 (Ds.printF ⟨k, a, b, t, l⟩).2]) ∧ Below w.heap.size w w' := by
  subst hkm
  obtain ⟨i0, hi, hz0, hz1, hz2⟩ := info_parts str_info
  have HI := Lib.hid hi
  have HZ := Lib.hid (And.intro hz0 (And.intro hz1 hz2))
  clear hi hz0 hz1 hz2
  have hrc := fun W => right_calls ⟨(m : Int) + 1, a, b, t, l⟩ A cap W (by simp only; omega) htl
  rw [hr] at hrc
  simp only at hrc
  have HRC := Lib.hid hrc
  have HE := Lib.hid he
  have HR := Lib.hid hR
  have HX := Lib.hid hx
  have HN := Lib.hid hn
  have HT := Lib.hid htl
  have HA := Lib.hid (And.intro ha hb)
  have HHL := Lib.hid (Ds.headF_len ⟨(m : Int) + 1, a, b, t, l⟩ hr ha hb)
  have HRT := Lib.hid hr
  clear hrc hR hx hn he hr htl ha hb
  go_enter Tryd.func7, Tryd.ntmps7
  go_wp2_with (go_at_call 13; refine (HRC.out _).mono ?_; rintro e w1 ⟨rfl, hb1⟩)
  have hz1 : w.heap.size + 1 ≤ w1.heap.size := by have := hb1.size; simpa using this
  have hb2 : Below (w.heap.size + 1) (w.alloc (.cells #[.int .i64 ((m : Int) + 1), .int .i64 a, .int .i64 b, .string ⟨t.toArray⟩, .slice A l.length cap] 24)) w1 := hb1.mono (by simp)
  have hE1 : Env w1 := HE.out.below (((Below.refl _ _).alloc (Nat.le_refl _) _).trans (hb1.mono (by simp))) HE.out.sz
  have hc0 : w1.cell? ⟨w.heap.size, 0, none⟩ = some (.int .i64 ((m : Int) + 1)) := by rw [hb2.cell (p := ⟨w.heap.size, 0, none⟩) (by simp)]; simp
  have hw0 : wordVals[m]? = some (.string ⟨(Ds.wordsL.getD m []).toArray⟩) := by
    unfold wordVals
    rw [List.getElem?_map, List.getD_eq_getElem?_getD, List.getElem?_eq_getElem (by simpa [Ds.wordsL] using hm)]
    rfl
  have HE1 := Lib.hid hE1
  clear hE1
  have hwd : Ds.wordsL.getD (((m : Int) + 1).toNat - 1) [] = Ds.wordsL.getD m [] := by congr 1
  generalize Ds.wordsL.getD m [] = word at hw0 hwd
  have HW := Lib.hid hwd
  clear hwd
  go_cut [4] (fun v wx => wx.ownsRow (w.heap.size + 1) 9 1 v 1 (strs [word]) ∧ Below (w.heap.size + 1) (w.alloc (.cells #[.int .i64 ((m : Int) + 1), .int .i64 a, .int .i64 b, .string ⟨t.toArray⟩, .slice A l.length cap] 24)) wx)
  case first =>
    have z0 : (0 : Int) ≤ (m : Int) := Int.natCast_nonneg _
    have z1 : (m : Int) < 13 := by omega
    have hrng : -9223372036854775808 ≤ (m : Int) ∧ (m : Int) ≤ 9223372036854775807 := by omega
    have hsub : (m : Int) + 1 - 1 = (m : Int) := by omega
    have z2 : IntKind.i64.wrap (m : Int) = (m : Int) := IntWalk.i64_in _ hrng
    have z3 : IntKind.i64.wrap ((m : Int) + 1 - 1) = (m : Int) := by rw [hsub]; exact z2
    clear hrng hsub
    have hc1 : ∀ o : Obj, (w1.alloc o).cell? ⟨w.heap.size, 0, none⟩ = some (.int .i64 ((m : Int) + 1)) := fun o => by rw [World.cell?_alloc_lt w1 o _ (by simp; omega)]; exact hc0
    go_region_with (go_at_call 14; refine (split_calls _ (by rfl) _ ((HE1.out).heap (by exact rfl))).mono ?_; rintro e w9 ⟨rfl, rfl⟩)
    all_goals
      go_wp2_with fail
      go_meet
      exact ⟨own_one (w1.alloc (.cells wordVals.toArray 9)) _ _ _ 9 (by simp) (by simp; omega), (((hb2.alloc hz1 _).alloc (by simp; omega) _)).drew⟩
  case rest =>
    obtain ⟨hown, hb⟩ := hcut
    have hz : w.heap.size + 1 ≤ wc.heap.size := by have := hb.size; simpa using this
    have hB : Blk wc w.heap.size 24 #[.int .i64 ((m : Int) + 1), .int .i64 a, .int .i64 b, .string ⟨t.toArray⟩, .slice A l.length cap] := by
      unfold Blk
      rw [hb.block w.heap.size (by omega)]
      exact heap_alloc_new w _
    have k0 : wc.cell? ⟨w.heap.size, 0, none⟩ = some (.int .i64 ((m : Int) + 1)) := hB.cell 0
    have k1 : wc.cell? ⟨w.heap.size, 1, none⟩ = some (.int .i64 a) := hB.cell 1
    have k2 : wc.cell? ⟨w.heap.size, 2, none⟩ = some (.int .i64 b) := hB.cell 2
    have l0 : ∀ o : Obj, (wc.alloc o).cell? ⟨w.heap.size, 0, none⟩ = some (.int .i64 ((m : Int) + 1)) := fun o => (hB.alloc o).cell 0
    have l1 : ∀ o : Obj, (wc.alloc o).cell? ⟨w.heap.size, 1, none⟩ = some (.int .i64 a) := fun o => (hB.alloc o).cell 1
    have l2 : ∀ o : Obj, (wc.alloc o).cell? ⟨w.heap.size, 2, none⟩ = some (.int .i64 b) := fun o => (hB.alloc o).cell 2
    have hnc := fun W => numbers_calls ((m : Int) + 1) W
    have hn2 : Ds.numbersF ((m : Int) + 1) ≤ 2 := by rcases numbersF_cases ((m : Int) + 1) with h | h | h <;> omega
    have hfin : Ds.headF ⟨(m : Int) + 1, a, b, t, l⟩ = word :: (([a, b].take (Ds.numbersF ((m : Int) + 1))).map Lib.itoa ++ (if Ds.hasTextF ((m : Int) + 1) then [t] else [])) := by
      unfold Ds.headF
      rw [HW.out]
    generalize Ds.numbersF ((m : Int) + 1) = nn at hnc hn2 hfin
    have HNC := Lib.hid hnc
    have HF := Lib.hid hfin
    have HB := Lib.hid hB
    clear hnc hfin hB
    have n0 : (0 : Int) ≤ (nn : Int) := Int.natCast_nonneg _
    have n1 : (nn : Int) ≤ 2 := by omega
    go_upto_region 4 with fail
    go_cut [39, 40, 41] (fun s q i wx => ∃ nb : Nat, s = .slice (some ⟨nb, 0, none⟩) nn 2 ∧ q = .int .i64 nn ∧ i = .int .i64 0 ∧ Blk wx nb 3 #[.int .i64 a, .int .i64 b] ∧ wx.ownsRow (w.heap.size + 1) 9 1 u4 1 (strs [word]) ∧ Below (w.heap.size + 1) (w.alloc (.cells #[.int .i64 ((m : Int) + 1), .int .i64 a, .int .i64 b, .string ⟨t.toArray⟩, .slice A l.length cap] 24)) wx)
    case first =>
      go_region_held3 (fun W => W.cell? ⟨w.heap.size, 0, none⟩ = some (.int .i64 ((m : Int) + 1)) ∧ W.cell? ⟨w.heap.size, 1, none⟩ = some (.int .i64 a) ∧ W.cell? ⟨w.heap.size, 2, none⟩ = some (.int .i64 b)) (first | go_keep)
        (first | (go_at_call 15; refine (HNC.out _).mono ?_; rintro e w9 ⟨rfl, rfl⟩))
      all_goals
        go_wp2_with fail
        go_meet
        exact ⟨wc.heap.size, rfl, rfl, rfl, Blk.new wc _ _, hown.alloc _, (hb.alloc hz _).drew⟩
    case rest =>
      obtain ⟨nb, rfl, rfl, rfl, hBn, hown2, hb3⟩ := hcut
      clear hown k0 k1 k2 l0 l1 l2 hz hb hz1 hb1 hb2 hc0 hw0
      go_wp2_with fail
      go_loopw [4, 6, 41] (fun v _ i wr => ∃ j : Nat, j ≤ nn ∧ i = .int .i64 j ∧ wr.ownsRow (w.heap.size + 1) 9 1 v (1 + j) (strs (word :: ([a, b].take j).map Lib.itoa)) ∧ Blk wr nb 3 #[.int .i64 a, .int .i64 b] ∧ Below (w.heap.size + 1) (w.alloc (.cells #[.int .i64 ((m : Int) + 1), .int .i64 a, .int .i64 b, .string ⟨t.toArray⟩, .slice A l.length cap] 24)) wr) (fun _ _ i _ => nn - (intOf i).toNat)
      case atStart => exact ⟨0, Nat.zero_le _, rfl, hown2, hBn, hb3⟩
      case round =>
        obtain ⟨j, hj, rfl, hown, hBr, hb⟩ := hrel
        have hz : w.heap.size + 1 ≤ wr.heap.size := by have := hb.size; simpa using this
        have hbw : Below w.heap.size w wr := ((Below.refl _ _).alloc (Nat.le_refl _) _).trans (hb.mono (by omega))
        have hEr := HE.out.below hbw HE.out.sz
        have HEr := Lib.hid hEr
        clear hEr hown2 hBn hb3
        by_cases hlt : j < nn
        · have hx0 : wr.cell? ⟨nb, j, none⟩ = some (.int .i64 ([a, b].getD j 0)) := by
            rw [hBr.cell j]
            have : j = 0 ∨ j = 1 := by omega
            rcases this with rfl | rfl <;> rfl
          have htk : strs (word :: ([a, b].take (j + 1)).map Lib.itoa) = strs (word :: ([a, b].take j).map Lib.itoa) ++ [.string ⟨(Lib.itoa ([a, b].getD j 0)).toArray⟩] := by
            have : j = 0 ∨ j = 1 := by omega
            rcases this with rfl | rfl <;> rfl
          have hxr : -9223372036854775808 ≤ [a, b].getD j 0 ∧ [a, b].getD j 0 ≤ 9223372036854775807 := by
            have : j = 0 ∨ j = 1 := by omega
            rcases this with rfl | rfl
            · exact HA.out.1
            · exact HA.out.2
          generalize [a, b].getD j 0 = x at hx0 htk hxr
          have hic := fun W => itoa_calls x hxr.1 hxr.2 W
          generalize Lib.itoa x = xs at hic htk
          have HIC := Lib.hid hic
          have HTK := Lib.hid htk
          clear hic htk hxr
          go_wp2_with (go_at_call 16; refine (HIC.out _ HEr.out).mono ?_; rintro e w1 ⟨rfl, hb1⟩; refine Hid.out ?_)
          have hb2 : Below (w.heap.size + 1) (w.alloc (.cells #[.int .i64 ((m : Int) + 1), .int .i64 a, .int .i64 b, .string ⟨t.toArray⟩, .slice A l.length cap] 24)) (w1.alloc (.cells #[.string ⟨xs.toArray⟩] 9)) :=
            (hb.trans (hb1.mono hz)).alloc (by have := hb1.size; omega) _
          have hown1 : (w1.alloc (.cells #[.string ⟨xs.toArray⟩] 9)).ownsRow (w.heap.size + 1) 9 1 u4 (1 + j) (strs (word :: ([a, b].take j).map Lib.itoa)) := (own_below hown hb1).alloc _
          have hBr1 : Blk (w1.alloc (.cells #[.string ⟨xs.toArray⟩] 9)) nb 3 #[.int .i64 a, .int .i64 b] := (hBr.below hb1 hBr.lt).alloc _
          have hz1 : w.heap.size + 1 ≤ w1.heap.size := by have := hb1.size; omega
          clear hBr
          refine Lib.hid ?_
          go_wp2_with (at_builtin; refine wpList_append_own _ rfl (.tmp 45) (.tmp 48) 41 rfl (w.heap.size + 1) 9 i0 _ 1 16 Tryd.underlying41 HI.out HZ.out.1 HZ.out.2.1 HZ.out.2.2 rfl (by decide) u4 (1 + j) _ rfl hown1 ⟨w1.heap.size, 0, none⟩ 1 1 [.string ⟨xs.toArray⟩] rfl rfl (cell_one_new _ _ _) (by simp [Value.oneCell']) (by simp only [maxLen]; omega) (by omega) (by simp; omega) ?_; intro v2 w2 hown2 hg2 _)
          have hb3 := below_app hb2 hown1 hg2 (by simp; omega)
          have hBr2 := hBr1.grown hg2 (Ne.symm (own_blk_ne hown1 hBr1 (by decide)))
          rw [← HTK.out] at hown2
          go_roundw
          case rel => exact ⟨j + 1, by omega, by go_num, hown2, hBr2, hb3⟩
          case measure => simp [intOf]; omega
        · have hjn : j = nn := by omega
          subst hjn
          clear hBr
          have hB : Blk wr w.heap.size 24 #[.int .i64 ((m : Int) + 1), .int .i64 a, .int .i64 b, .string ⟨t.toArray⟩, .slice A l.length cap] := by
            unfold Blk
            rw [hb.block w.heap.size (by omega)]
            exact heap_alloc_new w _
          have k0 : wr.cell? ⟨w.heap.size, 0, none⟩ = some (.int .i64 ((m : Int) + 1)) := hB.cell 0
          have k3 : wr.cell? ⟨w.heap.size, 3, none⟩ = some (.string ⟨t.toArray⟩) := hB.cell 3
          have l3 : ∀ o : Obj, (wr.alloc o).cell? ⟨w.heap.size, 3, none⟩ = some (.string ⟨t.toArray⟩) := fun o => (hB.alloc o).cell 3
          have htc := fun W => hasText_calls ((m : Int) + 1) W
          generalize Ds.hasTextF ((m : Int) + 1) = ht at htc HF
          generalize hhd : Ds.headF ⟨(m : Int) + 1, a, b, t, l⟩ = hd at HF
          have HHD := Lib.hid hhd
          have HTC := Lib.hid htc
          have hlen : (([a, b].take j).map Lib.itoa).length = j := by simp; omega
          have hF0 : ht = false → hd.length = 1 + j ∧ strs hd = strs (word :: ([a, b].take j).map Lib.itoa) := by
            intro h
            rw [HF.out, h]
            simp; omega
          have hF1 : ht = true → hd.length = 1 + j + 1 ∧ strs hd = strs (word :: ([a, b].take j).map Lib.itoa) ++ [.string ⟨t.toArray⟩] := by
            intro h
            rw [HF.out, h]
            refine ⟨by simp; omega, ?_⟩
            simp [strs]
          have hh4 : hd.length ≤ 4 := by
            cases ht
            · have := (hF0 rfl).1; omega
            · have := (hF1 rfl).1; omega
          have HF0 := Lib.hid hF0
          have HF1 := Lib.hid hF1
          clear htc hB hF0 hF1 hlen hhd HF
          go_upto_if 53 with (go_at_call 17; refine (HTC.out _).mono ?_; rintro e w9 ⟨rfl, rfl⟩)
          go_cut [4] (fun v wx => wx.ownsRow (w.heap.size + 1) 9 1 v hd.length (strs hd) ∧ Below (w.heap.size + 1) (w.alloc (.cells #[.int .i64 ((m : Int) + 1), .int .i64 a, .int .i64 b, .string ⟨t.toArray⟩, .slice A l.length cap] 24)) wx)
          case first =>
            cases ht
            · obtain ⟨e1, e2⟩ := HF0.out rfl
              have E1 := Lib.hid e1
              have E2 := Lib.hid e2
              clear e1 e2 l3
              go_wp2_with (go_at_call 17; refine (HTC.out _).mono ?_; rintro e w9 ⟨rfl, rfl⟩)
              go_meet
              exact ⟨by rw [E1.out, E2.out]; exact hown, hb⟩
            · obtain ⟨e1, e2⟩ := HF1.out rfl
              have E1 := Lib.hid e1
              have E2 := Lib.hid e2
              have hown1 : (wr.alloc (.cells #[.string ⟨t.toArray⟩] 9)).ownsRow (w.heap.size + 1) 9 1 u4 (1 + j) (strs (word :: ([a, b].take j).map Lib.itoa)) := hown.alloc _
              have hb2 := hb.alloc hz (.cells #[.string ⟨t.toArray⟩] 9)
              clear e1 e2 l3 hown hb
              go_wp2_with (first
                | (go_at_call 17; refine (HTC.out _).mono ?_; rintro e w9 ⟨rfl, rfl⟩)
                | (at_builtin; refine wpList_append_own _ rfl (.tmp 54) (.tmp 57) 41 rfl (w.heap.size + 1) 9 i0 _ 1 16 Tryd.underlying41 HI.out HZ.out.1 HZ.out.2.1 HZ.out.2.2 rfl (by decide) u4 (1 + j) _ rfl hown1 ⟨wr.heap.size, 0, none⟩ 1 1 [.string ⟨t.toArray⟩] rfl rfl (cell_one_new _ _ _) (by simp [Value.oneCell']) (by simp only [maxLen]; omega) (by omega) (by simp; omega) ?_; intro v2 w2 hown2 hg2 _))
              go_meet
              exact ⟨by rw [E1.out, E2.out]; exact hown2, below_app hb2 hown1 hg2 (by simp; omega)⟩
          case rest =>
            obtain ⟨hown3, hb3⟩ := hcut
            have hB : Blk wc w.heap.size 24 #[.int .i64 ((m : Int) + 1), .int .i64 a, .int .i64 b, .string ⟨t.toArray⟩, .slice A l.length cap] := by
              unfold Blk
              rw [hb3.block w.heap.size (by omega)]
              exact heap_alloc_new w _
            have k4 : wc.cell? ⟨w.heap.size, 4, none⟩ = some (.slice A l.length cap) := hB.cell 4
            clear hown hb k0 k3 l3 HTC HF0 HF1 hz hbw HEr hB
            go_wp2_with fail
            go_loopw [4, 8, 9, 10, 62] (fun v _ _ _ i wr => ∃ q : Nat, q ≤ l.length ∧ i = .int .i64 q ∧ wr.ownsRow (w.heap.size + 1) 9 1 v (hd.length + q) (strs hd ++ txts 40 (l.take q)) ∧ Below (w.heap.size + 1) (w.alloc (.cells #[.int .i64 ((m : Int) + 1), .int .i64 a, .int .i64 b, .string ⟨t.toArray⟩, .slice A l.length cap] 24)) wr ∧ Hid (∀ y ∈ l.take q, (Ds.textF 40 y).2 = 0)) (fun _ _ _ _ i _ => l.length - (intOf i).toNat)
            case atStart => exact ⟨0, Nat.zero_le _, rfl, by simpa [txts] using hown3, hb3, Lib.hid (by simp)⟩
            case round =>
              obtain ⟨q, hq, rfl, hown, hb, hall⟩ := hrel
              have hz : w.heap.size + 1 ≤ wr.heap.size := by have := hb.size; simpa using this
              have hbw : Below w.heap.size w wr := ((Below.refl _ _).alloc (Nat.le_refl _) _).trans (hb.mono (by omega))
              have hEr := HE.out.below hbw HE.out.sz
              have HEr := Lib.hid hEr
              clear hEr hown3 hb3 k4
              by_cases hlt : q < l.length
              · obtain ⟨bb, oo, rfl⟩ : ∃ bb oo, A = some ⟨bb, oo, none⟩ := by
                  obtain ⟨bb, oo, _, _, _, _, hA, _⟩ := HR.out.get (List.getElem?_eq_getElem hlt)
                  exact ⟨bb, oo, hA⟩
                obtain ⟨A', cap', _, h0, h1, h2, h3, hv⟩ := (RL.below HR.out hbw).at_ (List.getElem?_eq_getElem hlt)
                have hwf : Ds.wfV l[q] := wf_mem HX.out (List.getElem_mem hlt)
                have hnd : Ds.nodes l[q] ≤ 33554432 := Nat.le_trans (nodes_mem (List.getElem_mem hlt)) HN.out
                have hc : ∀ W : World, RV W lo l[q] (.int .i64 l[q].kind) (.int .i64 l[q].num) (.string ⟨l[q].text.toArray⟩) (.slice A' l[q].args.length cap') → Env W → Calls Tryd.prog 9 #[.agg #[.int .i64 l[q].kind, .int .i64 l[q].num, .string ⟨l[q].text.toArray⟩, .slice A' l[q].args.length cap']] W fun e w' => e = .returned (.tuple #[.string ⟨(Ds.textF 40 l[q]).1.toArray⟩, .int .i64 (Ds.textF 40 l[q]).2]) ∧ Below W.heap.size W w' :=
                  fun W hrv henv => Text_calls l[q] lo _ _ _ _ W hrv hwf hnd henv
                have HV := Lib.hid hv
                have htk : txts 40 (l.take (q + 1)) = txts 40 (l.take q) ++ [.string ⟨(Ds.textF 40 l[q]).1.toArray⟩] := by
                  unfold txts
                  rw [List.take_succ_eq_append_getElem hlt, List.map_append]
                  rfl
                have hal : (Ds.textF 40 l[q]).2 = 0 → ∀ y ∈ l.take (q + 1), (Ds.textF 40 y).2 = 0 := by
                  intro h0 y hy
                  rw [List.take_succ_eq_append_getElem hlt, List.mem_append] at hy
                  rcases hy with hy | hy
                  · exact hall.out y hy
                  · rw [List.mem_singleton.1 hy]; exact h0
                have her : (Ds.textF 40 l[q]).2 ≠ 0 → (Ds.argsF (Ds.textF 40) l).2 ≠ 0 := fun h => by rw [argsF_err _ l q hlt hall.out h]; exact h
                clear hv hwf hnd
                generalize Ds.textF 40 l[q] = p at hc htk hal her
                obtain ⟨sx, ex⟩ := p
                simp only at hc htk hal her
                have HC := Lib.hid hc
                have HTK := Lib.hid htk
                have HAL := Lib.hid hal
                have HER := Lib.hid her
                clear hc htk hal her
                have hz' : w.heap.size ≤ wr.heap.size := by omega
                by_cases hex : ex = 0
                · subst hex
                  go_wp2_with fail
                  refine (HC.out _ (HV.out.below ((Below.refl _ _).alloc (Nat.le_refl _) _)) (HE.out.below (hbw.alloc hz' _) HE.out.sz)).mono ?_
                  rintro e w1 ⟨rfl, hb1⟩
                  have hown1 : (w1.alloc (.cells #[.string ⟨sx.toArray⟩] 9)).ownsRow (w.heap.size + 1) 9 1 u4 (hd.length + q) (strs hd ++ txts 40 (l.take q)) := (own_below (hown.alloc _) hb1).alloc _
                  have hb2 : Below (w.heap.size + 1) (w.alloc (.cells #[.int .i64 ((m : Int) + 1), .int .i64 a, .int .i64 b, .string ⟨t.toArray⟩, .slice (some ⟨bb, oo, none⟩) l.length cap] 24)) (w1.alloc (.cells #[.string ⟨sx.toArray⟩] 9)) :=
                    ((hb.alloc hz _).trans (hb1.mono (by simp; omega))).alloc (by have := hb1.size; simp at this; omega) _
                  have hz1 : w.heap.size + 1 ≤ w1.heap.size := by have := hb1.size; simp at this; omega
                  go_wp2_with (at_builtin; refine wpList_append_own _ rfl (.tmp 73) (.tmp 75) 41 rfl (w.heap.size + 1) 9 i0 _ 1 16 Tryd.underlying41 HI.out HZ.out.1 HZ.out.2.1 HZ.out.2.2 rfl (by decide) u4 (hd.length + q) _ rfl hown1 ⟨w1.heap.size, 0, none⟩ 1 1 [.string ⟨sx.toArray⟩] rfl rfl (cell_one_new _ _ _) (by simp [Value.oneCell']) (by simp only [maxLen]; omega) (by omega) (by simp; omega) ?_; intro v2 w2 hown2 hg2 _)
                  have hb3 := below_app hb2 hown1 hg2 (by simp; omega)
                  rw [List.append_assoc, ← HTK.out] at hown2
                  go_roundw
                  case rel => exact ⟨q + 1, by omega, by go_num, hown2, hb3, Lib.hid (HAL.out trivial)⟩
                  case measure => simp [intOf]; omega
                · have hfin : Ds.printF ⟨(m : Int) + 1, a, b, t, l⟩ = ([], 3) := by
                    unfold Ds.printF
                    rw [if_neg (HER.out hex)]
                    simp
                  have HFN := Lib.hid hfin
                  clear hfin
                  have hne : (ex != 0) = true := by rw [bne_iff_ne]; exact hex
                  go_wp2_with fail
                  refine (HC.out _ (HV.out.below ((Below.refl _ _).alloc (Nat.le_refl _) _)) (HE.out.below (hbw.alloc hz' _) HE.out.sz)).mono ?_
                  rintro e w1 ⟨rfl, hb1⟩
                  have hb2 : Below w.heap.size w w1 := (hbw.alloc hz' _).trans (hb1.mono (by simp; omega))
                  go_wp2_with fail
                  go_ret2
                  exact ⟨(tup_ret (congrArg Prod.fst HFN.out) (congrArg Prod.snd HFN.out)).symm, hb2⟩
              · have hql : q = l.length := by omega
                subst hql
                have hpos : 0 < hd.length + l.length := by rw [← HHD.out]; simp [Ds.headF]; omega
                rw [List.take_length] at hown hall
                obtain ⟨g, cg, hv, hg1, hg2, hg3⟩ := own_form hown hpos
                subst hv
                have hxs : strs hd ++ txts 40 l = strs (hd ++ l.map fun y => (Ds.textF 40 y).1) := by simp [strs, txts]
                have hxl : (hd ++ l.map fun y => (Ds.textF 40 y).1).length = hd.length + l.length := by simp
                have hfin : Ds.printF ⟨(m : Int) + 1, a, b, t, l⟩ = (Lib.join (hd ++ l.map fun y => (Ds.textF 40 y).1) [32], 0) := by
                  unfold Ds.printF
                  rw [HHD.out, argsF_ok _ l hall.out, if_pos ⟨by simp only; omega, by simp only; omega, HRT.out⟩]
                  simp
                have hjl : (Lib.join (hd ++ l.map fun y => (Ds.textF 40 y).1) [32]).length ≤ 140737488355328 := by
                  have h1 := Ds.argsF_len (Ds.textF 40) l (fun y hy => Ds.textF_len 40 y (Ds.wf_memL HX.out hy))
                  rw [argsF_ok _ l hall.out, ← Ds.lsum_eq] at h1
                  simp only at h1
                  have h2 := Ds.join_lsum 32 (hd ++ l.map fun y => (Ds.textF 40 y).1)
                  have h3 := HN.out
                  have h4 := HHL.out
                  rw [HHD.out] at h4
                  rw [Ds.lsum_append] at h2
                  omega
                rw [hxs] at hown
                generalize (hd ++ l.map fun y => (Ds.textF 40 y).1) = xs at hfin hjl hown hxl
                have hcl : ∀ (i : Nat) x, xs[i]? = some x → wr.cell? ⟨g, i, none⟩ = some (.string ⟨x.toArray⟩) := by
                  intro i x hx
                  have h1 := hown.cells (g := g) rfl i (.string ⟨x.toArray⟩) (by unfold strs; rw [List.getElem?_map, hx]; rfl)
                  rw [add0] at h1
                  exact h1
                have hjoin : Calls Tryd.prog 18 #[.slice (some ⟨g, 0, none⟩) ((hd.length + l.length : Nat) : Nat) cg, .string ⟨#[32]⟩] wr fun e w' => e = .returned (.string ⟨(Lib.join xs [32]).toArray⟩) ∧ Below wr.heap.size wr w' := by
                  rw [← hxl]
                  exact join_calls g cg xs ⟨#[32]⟩ wr hcl hg2 (by omega) (by omega) hjl
                have HFN := Lib.hid hfin
                have HJ := Lib.hid hjoin
                clear hfin hjl hcl hjoin hxs hxl hown
                go_wp2_with (go_at_call 18; refine HJ.out.mono ?_; rintro e w1 ⟨rfl, hb1⟩)
                go_ret2
                exact ⟨(tup_ret (congrArg Prod.fst HFN.out) (congrArg Prod.snd HFN.out)).symm, hbw.trans (hb1.mono (by omega))⟩
end Go.Proofs.YtbfiejgdgdlciaaDoor
