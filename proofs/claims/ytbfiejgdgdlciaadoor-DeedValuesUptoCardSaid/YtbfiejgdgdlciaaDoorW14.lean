/-
  deed.split and deed.kind, call by call.
-/
import Derived.Test.YtbfiejgdgdlciaaDoorW5
namespace Go.Proofs.YtbfiejgdgdlciaaDoor
open Go.RowKit
open Ds (V Bs D)

theorem splitF_cons (done : List Bs) (cur : Bs) (q : Bool) (c : UInt8) (r : Bs) : Ds.splitF done cur q (c :: r) = if c = 32 ∧ q = false then Ds.splitF (done ++ [cur]) [] q r else Ds.splitF done (cur ++ [c]) (if c = 39 then !q else q) r := rfl

theorem beq_u8 (c : UInt8) (n : Nat) (hn : n < 256) : ((c.toNat : Int) == (n : Int)) = (c == UInt8.ofNat n) := by
  rw [Bool.eq_iff_iff]
  simp only [beq_iff_eq, ← UInt8.toNat_inj]
  have : (UInt8.ofNat n).toNat = n := by simp; omega
  rw [this]; omega

set_option maxRecDepth 100000 in
set_option maxHeartbeats 1000000 in
theorem split_walk (s : Bs) (w : World) (hl : s.length ≤ 16777216) (F : List Bs) (HF : Hid (Ds.splitF [] [] false s = F)) :
    Calls Tryd.prog 20 #[.string ⟨s.toArray⟩] w fun e w' => ∃ g cap, e = .returned (.slice (some ⟨g, 0, none⟩) F.length cap) ∧ w'.ownsRow w.heap.size 9 1 (.slice (some ⟨g, 0, none⟩) F.length cap) F.length (strs F) ∧ Below w.heap.size w w' := by
  obtain ⟨i0, hi, hz0, hz1, hz2⟩ := info_parts str_info
  have HI := Lib.hid hi
  have HZ := Lib.hid (And.intro hz0 (And.intro hz1 hz2))
  clear hi hz0 hz1 hz2
  go_enter Tryd.func20, Tryd.ntmps20
  go_wp2_with fail
  go_loopw [3, 4, 5, 9] (fun v qv _ i wr => ∃ (k : Nat) (done : List Bs) (cur : Bs) (q : Bool), k ≤ s.length ∧ i = .int .i64 k ∧ qv = .bool q ∧ wr.ownsRow w.heap.size 9 1 v (done.length + 1) (strs (done ++ [cur])) ∧ Below w.heap.size w wr ∧ done.length ≤ k ∧ cur.length ≤ k ∧ Hid (Ds.splitF done cur q (s.drop k) = F)) (fun _ _ _ i _ => s.length - (intOf i).toNat)
  case atStart => exact ⟨0, [], [], false, by omega, rfl, rfl, World.ownsRow_lit (base := w.heap.size) w #[.string ⟨#[]⟩] 1 (Nat.le_refl _) (by simp [maxLen]) rfl, (Below.refl _ _).alloc (Nat.le_refl _) _, by simp, by simp, HF⟩
  case round =>
    obtain ⟨k, done, cur, q, hk, rfl, rfl, hown, hb, hdk, hck, HS⟩ := hrel
    have hz := hb.size
    by_cases hlt : k < s.length
    · have hsd : s.drop k = s[k] :: s.drop (k + 1) := List.drop_eq_getElem_cons hlt
      have hkb : k < (⟨s.toArray⟩ : ByteArray).size := by simpa [ByteArray.size] using hlt
      have hs2 := HS.out
      rw [hsd, splitF_cons] at hs2
      by_cases h32 : s[k] = 32 ∧ q = false
      · rw [if_pos h32] at hs2
        have HS2 := Lib.hid hs2
        obtain ⟨h32, rfl⟩ := h32
        have g32 : (((⟨s.toArray⟩ : ByteArray)[k]'hkb |>.toNat : Int) == 32) = true := by
          show ((s[k].toNat : Int) == 32) = true
          rw [h32]; rfl
        clear hsd hs2 h32
        have hown1 : (wr.alloc (.cells #[.string ⟨#[]⟩] 9)).ownsRow w.heap.size 9 1 u3 (done.length + 1) (strs (done ++ [cur])) := hown.alloc _
        have hb2 := hb.alloc hz (.cells #[.string ⟨#[]⟩] 9)
        go_wp2_with (at_builtin; refine wpList_append_own _ rfl (.tmp 21) (.tmp 22) 41 rfl w.heap.size 9 i0 _ 1 16 Tryd.underlying41 HI.out HZ.out.1 HZ.out.2.1 HZ.out.2.2 rfl (by decide) u3 (done.length + 1) _ rfl hown1 ⟨wr.heap.size, 0, none⟩ 1 1 [.string ⟨#[]⟩] rfl rfl (cell_one_new _ _ _) (by simp [Value.oneCell']) (by simp only [maxLen]; omega) (by omega) (by simp; omega) ?_; intro v2 w2 hown2 hg2 _)
        have hb3 := below_app hb2 hown1 hg2 (by simp; omega)
        go_roundw
        case rel => exact ⟨k + 1, done ++ [cur], [], false, by omega, by go_num, rfl, by simpa [strs] using hown2, hb3, by simp; omega, by simp, HS2⟩
        case measure => simp [intOf]; omega
      · rw [if_neg h32] at hs2
        obtain ⟨g, cg, hv, hg1, hg2, hg3⟩ := own_form hown (by omega)
        subst hv
        have hcs : ((s[k] == 32) = true ∧ (s[k] == 39) = false ∧ q = true) ∨ ((s[k] == 32) = false ∧ (s[k] == 39) = true) ∨ ((s[k] == 32) = false ∧ (s[k] == 39) = false) := by
          by_cases e1 : s[k] = 32
          · left
            refine ⟨by simpa using e1, by rw [e1]; decide, ?_⟩
            cases q
            · exact absurd ⟨e1, rfl⟩ h32
            · rfl
          · right
            by_cases e2 : s[k] = 39
            · left; exact ⟨by simpa using e1, by simpa using e2⟩
            · right; exact ⟨by simpa using e1, by simpa using e2⟩
        have hq2 : Ds.splitF done (cur ++ [s[k]]) (if (s[k] == 39) = true then !q else q) (s.drop (k + 1)) = F := by simpa using hs2
        have HS2 := Lib.hid hq2
        have e32 : (((⟨s.toArray⟩ : ByteArray)[k]'hkb |>.toNat : Int) == 32) = (s[k] == 32) := beq_u8 s[k] 32 (by decide)
        have e39 : (((⟨s.toArray⟩ : ByteArray)[k]'hkb |>.toNat : Int) == 39) = (s[k] == 39) := beq_u8 s[k] 39 (by decide)
        have hcell : wr.cell? ⟨g, done.length, none⟩ = some (.string ⟨cur.toArray⟩) := by
          have := hown.cellAt done.length (by omega)
          rw [this]
          simp [strs]
        have hfr : wr.frozen? ⟨g, done.length, none⟩ = false := hown.frozenAt done.length
        have hst := hown.stored done.length (.string ⟨(cur ++ [s[k]]).toArray⟩)
        have hset : (strs (done ++ [cur])).set done.length (.string ⟨(cur ++ [s[k]]).toArray⟩) = strs (done ++ [cur ++ [s[k]]]) := by simp [strs]
        rw [hset] at hst
        have hex : (⟨s.toArray⟩ : ByteArray).extract k (k + 1) = ⟨[s[k]].toArray⟩ := of_data (by
          rw [Lib.extract_data]
          show (s.drop k).take (k + 1 - k) = [s[k]]
          rw [hsd, Nat.add_sub_cancel_left]
          rfl)
        obtain ⟨y, hy, _, hadd⟩ := cat Tryd.prog ⟨cur.toArray⟩ ((⟨s.toArray⟩ : ByteArray).extract k (k + 1)) (by rw [hex]; simp [ByteArray.size]; omega)
        have hye : y = ⟨(cur ++ [s[k]]).toArray⟩ := of_data (by rw [hy, hex])
        have HST := Lib.hid hst
        have HYE := Lib.hid hye
        clear hsd hs2 h32 hq2 hown hst hset hex hy hye
        generalize (s[k] == 32) = b32 at hcs e32
        generalize (s[k] == 39) = b39 at hcs e39 HS2
        have n0 : (0 : Int) ≤ (done.length : Int) := Int.natCast_nonneg _
        have n1 : (done.length : Int) < (done.length : Int) + 1 := by omega
        have n2 : (0 : Int) ≤ (k : Int) := Int.natCast_nonneg _
        have n3 : (k : Int) + 1 ≤ (s.length : Int) := by omega
        have n4 : (0 : Int) ≤ (k : Int) + 1 := by omega
        have n5 : (k : Int) ≤ (k : Int) + 1 := by omega
        have hr1 : -9223372036854775808 ≤ (done.length : Int) ∧ (done.length : Int) ≤ 9223372036854775807 := by omega
        have hr2 : -9223372036854775808 ≤ (k : Int) + 1 ∧ (k : Int) + 1 ≤ 9223372036854775807 := by omega
        have hsub : (done.length : Int) + 1 - 1 = (done.length : Int) := by omega
        rcases hcs with ⟨rfl, rfl, rfl⟩ | ⟨rfl, rfl⟩ | ⟨rfl, rfl⟩
        · go_upto_region 10 with fail
          have z2 : IntKind.i64.wrap (done.length : Int) = (done.length : Int) := IntWalk.i64_in _ hr1
          have z3 : IntKind.i64.wrap ((done.length : Int) + 1 - 1) = (done.length : Int) := by rw [hsub]; exact z2
          have z4 : IntKind.i64.wrap ((k : Int) + 1) = (k : Int) + 1 := IntWalk.i64_in _ hr2
          have z5 : ((k : Int) + 1).toNat = k + 1 := by rw [← Int.natCast_succ, Int.toNat_natCast]
          clear hsub hr1 hr2
          go_region_law (fail)
          all_goals
            clear z2 z3 z4 z5 e32 e39
            go_wp2_with fail
            go_roundw
            case rel => exact ⟨k + 1, done, cur ++ [s[k]], true, by omega, by go_num, rfl, by rw [HYE.out]; exact HST.out.1, (hb.setCell (p := ⟨g, done.length, none⟩) hg1 _).drew, by omega, by simp; omega, Lib.hid (by simpa using HS2.out)⟩
            case measure => simp [intOf]; omega
        · go_upto_region 10 with fail
          have z2 : IntKind.i64.wrap (done.length : Int) = (done.length : Int) := IntWalk.i64_in _ hr1
          have z3 : IntKind.i64.wrap ((done.length : Int) + 1 - 1) = (done.length : Int) := by rw [hsub]; exact z2
          have z4 : IntKind.i64.wrap ((k : Int) + 1) = (k : Int) + 1 := IntWalk.i64_in _ hr2
          have z5 : ((k : Int) + 1).toNat = k + 1 := by rw [← Int.natCast_succ, Int.toNat_natCast]
          clear hsub hr1 hr2
          go_region_law (fail)
          all_goals
            clear z2 z3 z4 z5 e32 e39
            go_wp2_with fail
            go_roundw
            case rel => exact ⟨k + 1, done, cur ++ [s[k]], !q, by omega, by go_num, rfl, by rw [HYE.out]; exact HST.out.1, (hb.setCell (p := ⟨g, done.length, none⟩) hg1 _).drew, by omega, by simp; omega, Lib.hid (by simpa using HS2.out)⟩
            case measure => simp [intOf]; omega
        · go_upto_region 10 with fail
          have z2 : IntKind.i64.wrap (done.length : Int) = (done.length : Int) := IntWalk.i64_in _ hr1
          have z3 : IntKind.i64.wrap ((done.length : Int) + 1 - 1) = (done.length : Int) := by rw [hsub]; exact z2
          have z4 : IntKind.i64.wrap ((k : Int) + 1) = (k : Int) + 1 := IntWalk.i64_in _ hr2
          have z5 : ((k : Int) + 1).toNat = k + 1 := by rw [← Int.natCast_succ, Int.toNat_natCast]
          clear hsub hr1 hr2
          go_region_law (fail)
          all_goals
            clear z2 z3 z4 z5 e32 e39
            go_wp2_with fail
            go_roundw
            case rel => exact ⟨k + 1, done, cur ++ [s[k]], q, by omega, by go_num, rfl, by rw [HYE.out]; exact HST.out.1, (hb.setCell (p := ⟨g, done.length, none⟩) hg1 _).drew, by omega, by simp; omega, Lib.hid (by simpa using HS2.out)⟩
            case measure => simp [intOf]; omega
    · have hkl : k = s.length := by omega
      subst hkl
      have hs2 := HS.out
      rw [List.drop_length] at hs2
      simp only [Ds.splitF] at hs2
      subst hs2
      obtain ⟨g, cg, hv, hg1, hg2, hg3⟩ := own_form hown (by omega)
      subst hv
      go_wp2_with fail
      go_ret
      exact ⟨g, cg, by simp, by simpa using hown, hb⟩

set_option maxRecDepth 100000 in
set_option maxHeartbeats 400000 in
theorem kind_walk (t : Bs) (w : World) (he : Env w) (F : Int) (HF : Hid (Ds.idxF t 0 Ds.wordsL = F)) :
    Calls Tryd.prog 31 #[.string ⟨t.toArray⟩] w fun e w' => e = .returned (.int .i64 F) ∧ Below w.heap.size w w' := by
  have HE := Lib.hid he
  clear he
  have hcl : ∀ (i : Nat) (x : Bs), Ds.wordsL[i]? = some x → (w.alloc (.cells wordVals.toArray 9)).cell? ⟨w.heap.size, i, none⟩ = some (.string ⟨x.toArray⟩) := fun i x hx => by
    rw [(Blk.new w 9 wordVals.toArray).cell i]
    unfold wordVals
    rw [List.getElem?_toArray, List.getElem?_map, hx]
    rfl
  have HCL := Lib.hid hcl
  clear hcl
  have hlen : Ds.wordsL.length = 13 := rfl
  have HLEN := Lib.hid hlen
  clear hlen
  go_enter Tryd.func31, Tryd.ntmps31
  go_wp2_with (go_at_call 14; refine (split_calls _ (by rfl) _ HE.out).mono ?_; rintro e w9 ⟨rfl, rfl⟩)
  go_loop [3, 4, 7] (fun _ _ i => ∃ k : Nat, k ≤ 13 ∧ i = .int .i64 k ∧ Hid (Ds.idxF t k (Ds.wordsL.drop k) = F)) (fun _ _ i => 13 - (intOf i).toNat)
  case atStart => exact ⟨0, by omega, rfl, HF⟩
  case round =>
    obtain ⟨k, hk, rfl, HS⟩ := hrel
    by_cases hlt : k < 13
    · have hk2 : k < Ds.wordsL.length := by rw [HLEN.out]; exact hlt
      have hs2 := HS.out
      rw [List.drop_eq_getElem_cons hk2] at hs2
      simp only [Ds.idxF] at hs2
      have hc := HCL.out k Ds.wordsL[k] (List.getElem?_eq_getElem hk2)
      generalize Ds.wordsL[k] = x at hs2 hc
      by_cases hxt : x = t
      · subst hxt
        have HS2 := Lib.hid hs2
        clear hs2 hk2
        go_wp2_with fail
        go_ret
        exact ⟨by rw [← HS2.out]; simp, (Below.refl _ _).alloc (Nat.le_refl _) _⟩
      · rw [if_neg hxt] at hs2
        have HS2 := Lib.hid hs2
        have g : (x == t) = false := by simpa using hxt
        clear hs2 hk2 hxt
        go_wp2_with fail
        go_round
        case rel => exact ⟨k + 1, by omega, by go_num, HS2⟩
        case measure => simp [intOf]; omega
    · have hk13 : k = 13 := by omega
      subst hk13
      go_wp2_with fail
      go_ret
      exact ⟨by rw [← HS.out]; rfl, (Below.refl _ _).alloc (Nat.le_refl _) _⟩

theorem kind_calls (t : Bs) (w : World) (he : Env w) : Calls Tryd.prog 31 #[.string ⟨t.toArray⟩] w fun e w' => e = .returned (.int .i64 (Ds.kindF t)) ∧ Below w.heap.size w w' :=
  kind_walk t w he _ (Lib.hid rfl)
end Go.Proofs.YtbfiejgdgdlciaaDoor
