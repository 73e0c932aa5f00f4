/-
  deed.parse at every list of words.
-/
import Derived.Test.YtbfiejgdgdlciaaDoorW16
namespace Go.Proofs.YtbfiejgdgdlciaaDoor
open Go.RowKit
open Ds (V Bs D)

set_option maxRecDepth 100000 in
set_option maxHeartbeats 1000000 in
/-- no such word, or too few -/
theorem parse_bad (t : Bs) (g cap n : Nat) (w : World) (kd : Int) (nn : Nat) (hn : 1 ≤ n) (_hcap : n ≤ cap) (_hl : n ≤ 16777217) (hgl : g < w.heap.size)
   (hc0 : w.cell? ⟨g, 0, none⟩ = some (.string ⟨t.toArray⟩))
   (HK : Hid (∀ W, Env W → Calls Tryd.prog 31 #[.string ⟨t.toArray⟩] W fun e w' => e = .returned (.int .i64 kd) ∧ Below W.heap.size W w'))
   (HN : Hid (∀ W, Calls Tryd.prog 15 #[.int .i64 kd] W fun e w' => e = .returned (.int .i64 (nn : Nat)) ∧ W = w'))
   (he : Env w) (hk : (kd == 0) = true ∨ ((kd == 0) = false ∧ n - 1 < nn)) :
    Calls Tryd.prog 19 #[.slice (some ⟨g, 0, none⟩) n cap] w (PPost w none) := by
  have HE := Lib.hid he
  have hca : ∀ o : Obj, (w.alloc o).cell? ⟨g, 0, none⟩ = some (.string ⟨t.toArray⟩) := fun o => by rw [World.cell?_alloc_lt w o _ (by simpa using hgl)]; exact hc0
  have hn0 : 0 < n := by omega
  have hn1 : (1 : Int) ≤ n := by omega
  clear he hc0
  have hk2 : (kd == 0) = true ∨ ((kd == 0) = false ∧ (n : Int) - 1 < nn) := by
    rcases hk with h | ⟨h1, h2⟩
    · exact Or.inl h
    · exact Or.inr ⟨h1, by omega⟩
  have HK2 := Lib.hid hk2
  clear hk hk2
  by_cases hc1 : cap = 1
  all_goals
    go_enter Tryd.func19, Tryd.ntmps19
    go_wp2_with (first | (go_at_call 31; refine (HK.out _ (HE.out.alloc _)).mono ?_; rintro e w1 ⟨rfl, hb1⟩; refine Hid.out ?_))
    have hbw1 : Below w.heap.size w w1 := ((Below.refl _ _).alloc (Nat.le_refl _) (.cells zeroD5 24)).trans (hb1.mono (by simp))
    have hPB : PB w w1.heap.size kd 0 0 [] (.slice none 0 0) (w1.alloc (.cells #[.int .i64 kd, .int .i64 0, .int .i64 0, .string ⟨#[]⟩, .slice none 0 0] 24)) :=
      ⟨((Blk.new w 24 zeroD5).below hb1 (by simp)).alloc _, Blk.new _ _ _, hbw1.alloc hbw1.size _⟩
    have k0 : (w1.alloc (.cells #[.int .i64 kd, .int .i64 0, .int .i64 0, .string ⟨#[]⟩, .slice none 0 0] 24)).cell? ⟨w1.heap.size, 0, none⟩ = some (.int .i64 kd) := hPB.2.1.cell 0
    obtain ⟨hz, _, hb⟩ := hPB
    have hzl := hz.lt
    have z0 := hz.cell 0
    have z1 := hz.cell 1
    have z2 := hz.cell 2
    have z3 := hz.cell 3
    have z4 := hz.cell 4
    have y0 := hz.frozen 0
    have y1 := hz.frozen 1
    have y2 := hz.frozen 2
    have y3 := hz.frozen 3
    have y4 := hz.frozen 4
    simp only [zeroD5, List.getElem?_toArray, List.getElem?_cons_zero, List.getElem?_cons_succ] at z0 z1 z2 z3 z4
    have HZ := Lib.hid hz
    have HB := Lib.hid hb
    clear hz hb hbw1 hb1
    rcases HK2.out with hk | ⟨hk, hlt⟩
    · refine Lib.hid ?_
      go_wp2_with fail
      obtain ⟨W', hW', hB', hb', _⟩ := set5 (.int .i64 0) (.int .i64 0) (.int .i64 0) (.string ⟨#[]⟩) (.slice none 0 0) HZ.out HB.out
      rw [← hW']
      have p0 := hB'.cell 0
      have p1 := hB'.cell 1
      have p2 := hB'.cell 2
      have p3 := hB'.cell 3
      have p4 := hB'.cell 4
      exact bodyPost_ret (v := .tuple #[.agg #[.int .i64 0, .int .i64 0, .int .i64 0, .string ⟨#[]⟩, .slice none 0 0], .bool false]) (by simp [results, Tryd.results19, go_sem, p0, p1, p2, p3, p4]) rfl (PPost.zero hb')
    · refine Lib.hid ?_
      go_wp2_with (first | (go_at_call 15; refine (HN.out _).mono ?_; rintro e w9 ⟨rfl, rfl⟩))
      obtain ⟨W', hW', hB', hb', _⟩ := set5 (.int .i64 0) (.int .i64 0) (.int .i64 0) (.string ⟨#[]⟩) (.slice none 0 0) HZ.out HB.out
      rw [← hW']
      have p0 := hB'.cell 0
      have p1 := hB'.cell 1
      have p2 := hB'.cell 2
      have p3 := hB'.cell 3
      have p4 := hB'.cell 4
      exact bodyPost_ret (v := .tuple #[.agg #[.int .i64 0, .int .i64 0, .int .i64 0, .string ⟨#[]⟩, .slice none 0 0], .bool false]) (by simp [results, Tryd.results19, go_sem, p0, p1, p2, p3, p4]) rfl (PPost.zero hb')

set_option maxRecDepth 100000 in
set_option maxHeartbeats 1000000 in
/-- one word alone, and no numbers needed -/
theorem parse_one (t : Bs) (g cap : Nat) (w : World) (kd : Int) (hcap : 1 ≤ cap) (hgl : g < w.heap.size)
   (hc0 : w.cell? ⟨g, 0, none⟩ = some (.string ⟨t.toArray⟩))
   (HK : Hid (∀ W, Env W → Calls Tryd.prog 31 #[.string ⟨t.toArray⟩] W fun e w' => e = .returned (.int .i64 kd) ∧ Below W.heap.size W w'))
   (HN : Hid (∀ W, Calls Tryd.prog 15 #[.int .i64 kd] W fun e w' => e = .returned (.int .i64 0) ∧ W = w'))
   (HT : Hid (∀ W, Calls Tryd.prog 17 #[.int .i64 kd] W fun e w' => e = .returned (.bool false) ∧ W = w'))
   (he : Env w) (hk : (kd == 0) = false) :
    Calls Tryd.prog 19 #[.slice (some ⟨g, 0, none⟩) 1 cap] w (PPost w (some ⟨kd, 0, 0, [], []⟩)) := by
  have HE := Lib.hid he
  have hca : ∀ o : Obj, (w.alloc o).cell? ⟨g, 0, none⟩ = some (.string ⟨t.toArray⟩) := fun o => by rw [World.cell?_alloc_lt w o _ (by simpa using hgl)]; exact hc0
  clear he hc0
  by_cases hc1 : cap = 1
  all_goals
    go_enter Tryd.func19, Tryd.ntmps19
    go_wp2_with (first | (go_at_call 31; refine (HK.out _ (HE.out.alloc _)).mono ?_; rintro e w1 ⟨rfl, hb1⟩; refine Hid.out ?_))
    have hwb : w.heap.size < w1.heap.size := by have := hb1.size; simp at this; omega
    have hbw1 : Below w.heap.size w w1 := ((Below.refl _ _).alloc (Nat.le_refl _) (.cells zeroD5 24)).trans (hb1.mono (by simp))
    have hPB : PB w w1.heap.size kd 0 0 [] (.slice none 0 0) (w1.alloc (.cells #[.int .i64 kd, .int .i64 0, .int .i64 0, .string ⟨#[]⟩, .slice none 0 0] 24)) :=
      ⟨((Blk.new w 24 zeroD5).below hb1 (by simp)).alloc _, Blk.new _ _ _, hbw1.alloc hbw1.size _⟩
    have k0 : (w1.alloc (.cells #[.int .i64 kd, .int .i64 0, .int .i64 0, .string ⟨#[]⟩, .slice none 0 0] 24)).cell? ⟨w1.heap.size, 0, none⟩ = some (.int .i64 kd) := hPB.2.1.cell 0
    have HPB := Lib.hid hPB
    clear hPB hbw1 hb1
    refine Lib.hid ?_
    go_wp2_with (first | (go_at_call 15; refine (HN.out _).mono ?_; rintro e w9 ⟨rfl, rfl⟩))
    go_loopw [5, 6, 7, 34] (fun _ _ _ v wr => v = .int .i64 0 ∧ PB w w1.heap.size kd 0 0 [] (.slice none 0 0) wr) (fun _ _ _ v _ => 0)
    case atStart => exact ⟨rfl, HPB.out⟩
    case round =>
      obtain ⟨rfl, hPB⟩ := hrel
      have k0 : wr.cell? ⟨w1.heap.size, 0, none⟩ = some (.int .i64 kd) := hPB.2.1.cell 0
      have HPR := Lib.hid hPB
      clear hPB
      go_wp2_with (first | (go_at_call 15; refine (HN.out _).mono ?_; rintro e w9 ⟨rfl, rfl⟩) | (go_at_call 17; refine (HT.out _).mono ?_; rintro e w9 ⟨rfl, rfl⟩))
      go_loopw [9, 10, 11, 75] (fun _ _ _ v wr => v = .int .i64 0 ∧ PB w w1.heap.size kd 0 0 [] (.slice none 0 0) wr) (fun _ _ _ v _ => 0)
      case atStart => exact ⟨rfl, HPR.out⟩
      case round =>
        clear k0 HPR HPB
        obtain ⟨rfl, hPB⟩ := hrel
        have HPS := Lib.hid (PS.start hPB)
        obtain ⟨hz, hB1, hb⟩ := hPB
        have hzl := hz.lt
        have hBl := hB1.lt
        have z0 := hz.cell 0
        have z1 := hz.cell 1
        have z2 := hz.cell 2
        have z3 := hz.cell 3
        have z4 := hz.cell 4
        have y0 := hz.frozen 0
        have y1 := hz.frozen 1
        have y2 := hz.frozen 2
        have y3 := hz.frozen 3
        have y4 := hz.frozen 4
        have q0 := hB1.cell 0
        have q1 := hB1.cell 1
        have q2 := hB1.cell 2
        have q3 := hB1.cell 3
        have q4 := hB1.cell 4
        simp only [zeroD5, List.getElem?_toArray, List.getElem?_cons_zero, List.getElem?_cons_succ] at z0 z1 z2 z3 z4 q0 q1 q2 q3 q4
        clear hz hb hB1
        go_wp2_with fail
        obtain ⟨W', hW', hB', hfin⟩ := PS.fin hwb HPS.out
        rw [← hW']
        have p0 := hB'.cell 0
        have p1 := hB'.cell 1
        have p2 := hB'.cell 2
        have p3 := hB'.cell 3
        have p4 := hB'.cell 4
        exact bodyPost_ret (v := .tuple #[.agg #[.int .i64 kd, .int .i64 0, .int .i64 0, .string ⟨#[]⟩, .slice none 0 0], .bool true]) (by simp [results, Tryd.results19, go_sem, p0, p1, p2, p3, p4]) rfl hfin

theorem numbers_two (k : Int) : Ds.numbersF k ≤ 2 := by rcases numbersF_cases k with h | h | h <;> omega
theorem numbers_zero {k : Int} (h : Ds.numbersF k = 0) : Ds.hasTextF k = false := by
  unfold Ds.numbersF at h
  split at h
  · omega
  · split at h
    · rename_i h9
      subst h9
      rfl
    · omega

/-- deed.parse -/
theorem parse_calls (t : Bs) (r : List Bs) (g cap n : Nat) (w : World) (hn : n = r.length + 1) (hcap : n ≤ cap) (hl : n ≤ 16777217) (hgl : g < w.heap.size)
   (hc : ∀ i x, (t :: r)[i]? = some x → w.cell? ⟨g, i, none⟩ = some (.string ⟨x.toArray⟩) ∧ x.length ≤ 16777216) (he : Env w) :
    Calls Tryd.prog 19 #[.slice (some ⟨g, 0, none⟩) n cap] w (PPost w (Ds.parseF (t :: r))) := by
  have hc0 := (hc 0 t rfl).1
  have hcr : ∀ i x, r[i]? = some x → w.cell? ⟨g, 1 + i, none⟩ = some (.string ⟨x.toArray⟩) ∧ x.length ≤ 16777216 := fun i x hx => by
    rw [Nat.add_comm]
    exact hc (i + 1) x (by simpa using hx)
  have HK := Lib.hid fun W hW => kind_calls t W hW
  have HN := Lib.hid fun W => numbers_calls (Ds.kindF t) W
  have HT := Lib.hid fun W => hasText_calls (Ds.kindF t) W
  rw [Ds.parseF_cons]
  by_cases h0 : Ds.kindF t = 0
  · rw [if_pos (Or.inl h0)]
    exact parse_bad t g cap n w _ _ (by omega) hcap hl hgl hc0 HK HN he (Or.inl (by simpa using h0))
  have h0' : (Ds.kindF t == 0) = false := by simpa using h0
  by_cases h1 : r.length < Ds.numbersF (Ds.kindF t)
  · rw [if_pos (Or.inr h1)]
    exact parse_bad t g cap n w _ _ (by omega) hcap hl hgl hc0 HK HN he (Or.inr ⟨h0', by omega⟩)
  rw [if_neg (fun h => by rcases h with h | h; exact h0 h; exact h1 h)]
  by_cases hr : r = []
  · subst hr
    have hnn : Ds.numbersF (Ds.kindF t) = 0 := by simp at h1; exact h1
    have htf := numbers_zero hnn
    rw [hnn] at HN ⊢
    rw [htf] at HT
    have hn1 : n = 1 := by simpa using hn
    subst hn1
    have hF : Ds.numP [] (Ds.kindF t) 0 0 0 0 = some ⟨Ds.kindF t, 0, 0, [], []⟩ := by
      simp [Ds.numP, Ds.textP, htf, Ds.argsP]
    rw [hF]
    exact parse_one t g cap w _ hcap hgl hc0 HK HN HT he h0'
  · have : r.length ≠ 0 := fun h => hr (List.eq_nil_of_length_eq_zero h)
    exact parse_main t r g cap n w _ _ _ hn (by omega) hcap hl hgl hc0 hcr HK HN HT he h0' (by omega) (numbers_two _) _ (Lib.hid rfl) (Lib.hid rfl)
end Go.Proofs.YtbfiejgdgdlciaaDoor
