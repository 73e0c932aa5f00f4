/-
  WHAT IS PRINTED IS READ: the plain law of deeds' lines.
-/
import Derived.Test.YtbfiejgdgdlciaaDoorLaws3
import Derived.Test.YtbfiejgdgdlciaaDoorLaws4
namespace Go.Proofs.YtbfiejgdgdlciaaDoor
open Ds (V Bs D)

namespace Ds
open Go.Lib (itoa join)

/-- a word whose quotes are closed and that has no space outside them -/
def Good (w : Bs) : Prop := ∀ (done : List Bs) (cur r : Bs), splitF done cur false (w ++ r) = splitF done (cur ++ w) false r

theorem good_nil : Good [] := fun done cur r => by simp
theorem good_app {a b : Bs} (ha : Good a) (hb : Good b) : Good (a ++ b) := fun done cur r => by
  rw [List.append_assoc, ha, hb, List.append_assoc]
theorem good_one {c : UInt8} (h1 : c ≠ 32) (h2 : c ≠ 39) : Good [c] := fun done cur r => by
  simp only [List.cons_append, List.nil_append, splitF]
  rw [if_neg (fun h => h1 h.1), if_neg h2]
theorem good_plain : ∀ (w : Bs), (∀ c ∈ w, c ≠ 32 ∧ c ≠ 39) → Good w
  | [], _ => good_nil
  | c :: w, h => by
    have h1 := h c (by simp)
    have h2 := good_plain w (fun x hx => h x (by simp [hx]))
    exact good_app (a := [c]) (good_one h1.1 h1.2) h2
theorem quoted : ∀ (t : Bs) (done : List Bs) (cur r : Bs), (∀ c ∈ t, c ≠ 39) → splitF done cur true (t ++ 39 :: r) = splitF done (cur ++ t ++ [39]) false r
  | [], done, cur, r, _ => by
    simp only [List.nil_append, splitF, List.append_nil]
    rw [if_neg (by simp), if_pos trivial]
    rfl
  | c :: t, done, cur, r, h => by
    have h1 := h c (by simp)
    simp only [List.cons_append, splitF]
    rw [if_neg (by simp), if_neg h1, quoted t done (cur ++ [c]) r (fun x hx => h x (by simp [hx]))]
    simp
theorem good_quote {t : Bs} (h : ∀ c ∈ t, c ≠ 39) : Good (39 :: (t ++ [39])) := fun done cur r => by
  simp only [List.cons_append, splitF]
  rw [if_neg (by simp), if_pos trivial, List.append_assoc]
  show splitF done (cur ++ [39]) true (t ++ 39 :: r) = _
  rw [quoted t done (cur ++ [39]) r h]
  simp
theorem num_good {w : Bs} (h : ∀ c ∈ w, numB c = true) : Good w := good_plain w fun c hc => by
  have h1 := h c hc
  have h2 := num_head h1
  refine ⟨?_, h2.2.2.1⟩
  rintro rfl
  revert h1
  decide
theorem name_good {w : Bs} (h : ∀ c ∈ w, nameB c = true) : Good w := good_plain w fun c hc => by
  have h1 := h c hc
  refine ⟨?_, ?_⟩ <;> · rintro rfl; revert h1; decide

theorem join_good : ∀ {ss : List Bs}, (∀ s ∈ ss, Good s) → Good (join ss [44])
  | [], _ => good_nil
  | [x], h => by rw [Lib.join_one]; exact h x (by simp)
  | x :: y :: r, h => by
    rw [join_cons2]
    exact good_app (h x (by simp)) (good_app (a := [44]) (good_one (by decide) (by decide)) (join_good (fun s hs => h s (by simp [hs]))))

theorem argsF_good {f : V → Bs × Int} (hf : ∀ v t, f v = (t, 0) → Good t) : ∀ {l : List V} {ss : List Bs}, argsF f l = (ss, 0) → ∀ s ∈ ss, Good s
  | [], ss, h, s, hs => by rw [argsF_nil h] at hs; simp at hs
  | x :: xs, ss, h, s, hs => by
    obtain ⟨s0, ss', rfl, h1, h2⟩ := argsF_cons h
    rcases List.mem_cons.1 hs with rfl | hs
    · exact hf x _ h1
    · exact argsF_good hf h2 s hs

theorem plain_all {t : Bs} (h : plainB t = true) : ∀ c ∈ t, nameB c = true := by
  unfold plainB at h
  simp only [Bool.and_eq_true, List.all_eq_true] at h
  exact h.1

theorem textF_good : ∀ (n : Nat) (v : V) (t : Bs), textF n v = (t, 0) → Good t
  | 0, v, t, h => by simp only [textF] at h; injection h with _ h; cases h
  | n + 1, .mk k num x l, t, h => by
    have ih := textF_good n
    simp only [textF] at h
    split at h
    · injection h with h _; subst h; exact good_plain _ (by decide)
    split at h
    · injection h with h _; subst h; exact num_good (itoa_num num)
    split at h
    · injection h with h _; subst h; exact good_app (a := [64]) (good_one (by decide) (by decide)) (num_good (itoa_num num))
    split at h
    · split at h
      · injection h with h _
        subst h
        unfold boolT
        split
        · exact good_plain _ (by decide)
        · exact good_plain _ (by decide)
      · injection h with _ h; cases h
    split at h
    · split at h
      · rename_i hq
        injection h with h _
        subst h
        unfold quotB at hq
        simp only [Bool.and_eq_true, List.all_eq_true] at hq
        refine good_quote fun c hc => ?_
        have := quo_noQ (hq.1 c hc)
        rintro rfl
        revert this
        decide
      · injection h with _ h; cases h
    split at h
    · split at h
      · rename_i hmk
        simp only [Bool.and_eq_true] at hmk
        have hx := hmk.1
        unfold makerB at hx
        simp only [Bool.and_eq_true] at hx
        have hg := name_good (plain_all hx.1)
        unfold madeF at h
        split at h
        · rename_i h0
          have hargs : argsF (textF n) l = ((argsF (textF n) l).1, 0) := by rw [← h0]
          split at h
          · injection h with h _; subst h; exact hg
          · injection h with h _
            subst h
            exact good_app (good_app (good_app hg (good_one (by decide) (by decide))) (join_good (argsF_good ih hargs))) (good_one (by decide) (by decide))
        · rename_i h0
          injection h with _ h
          exact absurd h h0
      · injection h with _ h; cases h
    · injection h with _ h; cases h

theorem split_join : ∀ (ws : List Bs) (done : List Bs), ws ≠ [] → (∀ w ∈ ws, Good w) → splitF done [] false (join ws [32]) = done ++ ws
  | [], _, h, _ => absurd rfl h
  | [w], done, _, h => by
    have hg := h w (by simp) done [] []
    rw [List.append_nil] at hg
    rw [Lib.join_one, hg]
    simp [splitF]
  | w :: y :: r, done, _, h => by
    rw [join_cons2, h w (by simp)]
    simp only [List.nil_append, splitF]
    rw [if_pos ⟨trivial, trivial⟩, split_join (y :: r) (done ++ [w]) (by simp) (fun x hx => h x (by simp [hx]))]
    simp

theorem argsP_text : ∀ (l : List V) (ss : List Bs), wfL l → argsF (textF 40) l = (ss, 0) → argsP ss = some (bareL l)
  | [], ss, _, h => by rw [argsF_nil h]; rfl
  | x :: xs, ss, hw, h => by
    obtain ⟨s, ss', rfl, h1, h2⟩ := argsF_cons h
    have hv := valF_text hw.1 h1
    simp only [argsP, hv]
    rw [argsP_text xs ss' hw.2 h2]
    simp [bareL]

def bareD (d : D) : D := ⟨d.kind, d.a, d.b, d.text, bareL d.args⟩

theorem rightF_bare (d : D) : rightF (bareD d) = rightF d := by
  have e : (bareD d).args.length = d.args.length := bareL_length d.args
  unfold rightF rightArgsF
  rw [e]
  rfl
theorem printF_bare (d : D) : printF (bareD d) = printF d := by
  have h1 : argsF (textF 40) (bareD d).args = argsF (textF 40) d.args := argsF_bare (textF 40) (textF_bare 40) d.args
  unfold printF
  rw [rightF_bare, h1]
  rfl

theorem word_kind : ∀ m : Nat, m < 13 → kindF (wordsL.getD m []) = (m : Int) + 1 := by decide +kernel
theorem word_plain : ∀ m : Nat, m < 13 → ∀ c ∈ wordsL.getD m [], c ≠ 32 ∧ c ≠ 39 := by decide +kernel

/-- a deed that has a line is what that line is read as -/
theorem lineF_print {d : D} {s : Bs} (hf : inInt d.a ∧ inInt d.b ∧ wfL d.args) (h : printF d = (s, 0)) : lineF s = (bareD d, 0) := by
  obtain ⟨ha, hb, hw⟩ := hf
  have hpb := printF_bare d
  rw [h] at hpb
  unfold printF at h
  split at h
  · rename_i hc
    obtain ⟨hk1, hk2, hr⟩ := hc
    split at h
    · rename_i h0
      injection h with h _
      have hargs : argsF (textF 40) d.args = ((argsF (textF 40) d.args).1, 0) := by rw [← h0]
      generalize (argsF (textF 40) d.args).1 = ss at h hargs
      obtain ⟨m, hm⟩ : ∃ m : Nat, d.kind = (m : Int) + 1 := ⟨(d.kind - 1).toNat, by omega⟩
      have hm13 : m < 13 := by omega
      have hkm : d.kind.toNat - 1 = m := by omega
      have hwk := word_kind m hm13
      have hwp := word_plain m hm13
      have hhead : headF d = wordsL.getD m [] :: (([d.a, d.b].take (numbersF d.kind)).map itoa ++ (if hasTextF d.kind then [d.text] else [])) := by
        unfold headF
        rw [hkm]
      have hp := argsP_text d.args ss hw hargs
      -- the words are good
      have hgood : ∀ w ∈ headF d ++ ss, Good w := by
        intro w hw'
        rcases List.mem_append.1 hw' with h1 | h1
        · rw [hhead] at h1
          rcases List.mem_cons.1 h1 with rfl | h1
          · exact good_plain _ hwp
          · rcases List.mem_append.1 h1 with h1 | h1
            · obtain ⟨n, _, rfl⟩ := List.mem_map.1 h1
              exact num_good (itoa_num n)
            · split at h1
              · rename_i ht
                obtain rfl := List.mem_singleton.1 h1
                unfold rightF at hr
                rw [if_pos ht] at hr
                simp only [Bool.and_eq_true] at hr
                exact name_good (plain_all hr.1.1.1)
              · simp at h1
        · exact argsF_good (textF_good 40) hargs w h1
      have hsplit := split_join (headF d ++ ss) [] (by rw [hhead]; simp) hgood
      rw [h] at hsplit
      rw [List.nil_append] at hsplit
      -- and are read
      have hparse : parseF (headF d ++ ss) = some (bareD d) := by
        rw [hhead, List.cons_append, parseF_cons, hwk, ← hm]
        unfold rightF at hr
        simp only [Bool.and_eq_true] at hr
        obtain ⟨⟨⟨ht, hb0⟩, ha0⟩, _⟩ := hr
        have htext : textP d.kind d.a d.b ((if hasTextF d.kind then [d.text] else []) ++ ss) = some (bareD d) := by
          unfold textP
          split
          · simp [hp, bareD]
          · rename_i h1
            rw [if_neg h1] at ht
            have ht' : d.text = [] := by simpa using ht
            simp [hp, bareD, ht']
        have hk0 : d.kind ≠ 0 := by omega
        rcases numbersF_cases d.kind with hn | hn | hn
        · rw [hn] at hb0 ha0 ⊢
          have hb1 : d.b = 0 := by simpa using hb0
          have ha1 : d.a = 0 := by simpa using ha0
          rw [if_neg (fun hh => by rcases hh with hh | hh; exact hk0 hh; exact absurd hh (Nat.not_lt_zero _))]
          rw [ha1, hb1] at htext
          simpa [numP] using htext
        · rw [hn] at hb0 ha0 ⊢
          have hb1 : d.b = 0 := by simpa using hb0
          rw [hb1] at htext
          rw [if_neg (fun hh => by rcases hh with hh | hh; exact hk0 hh; simp at hh)]
          simp only [numP, List.take_succ_cons, List.take_zero, List.map_cons, List.map_nil, List.cons_append, List.nil_append, List.getD_cons_zero, atoiN_itoa ha.1 ha.2]
          simpa using htext
        · rw [hn]
          rw [if_neg (fun hh => by rcases hh with hh | hh; exact hk0 hh; simp at hh; omega)]
          simp only [numP, List.take_succ_cons, List.take_zero, List.map_cons, List.map_nil, List.cons_append, List.nil_append, List.getD_cons_zero, List.getD_cons_succ, atoiN_itoa ha.1 ha.2, atoiN_itoa hb.1 hb.2]
          simpa using htext
      unfold lineF
      rw [hsplit, hparse]
      simp only [hpb]
      simp
    · injection h with _ h; cases h
  · injection h with _ h; cases h

theorem printF_err {d : D} (h : (printF d).2 ≠ 0) : printF d = ([], 3) := by
  unfold printF at h ⊢
  split
  · rename_i h1
    rw [if_pos h1] at h
    split
    · rename_i h2; rw [if_pos h2] at h; simp at h
    · rfl
  · rfl
end Ds
end Go.Proofs.YtbfiejgdgdlciaaDoor
