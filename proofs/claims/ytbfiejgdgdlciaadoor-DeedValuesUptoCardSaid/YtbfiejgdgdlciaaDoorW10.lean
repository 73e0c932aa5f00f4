/-
  THE READER's value, call by call: texts, and names that bear no arguments.
-/
import Derived.Test.YtbfiejgdgdlciaaDoorW9
namespace Go.Proofs.YtbfiejgdgdlciaaDoor
open Go.RowKit
open Ds (V Bs D)

set_option maxRecDepth 100000 in
set_option maxHeartbeats 400000 in
theorem value_text_yes (b : Nat) (c : UInt8) (q : Bs) (bad : Bool) (d : Int) (w : World) (h : Rd w b (c :: q) bad) (hd : d ≤ 40) (s r2 r3 : Bs) (HTakA : Hid (∀ W, Rd W b (c :: q) bad → Calls Tryd.prog 37 #[.pointer (some ⟨b, 0, none⟩), .string ⟨#[40, 41]⟩] W fun e w' => e = .returned (.bool false) ∧ W = w')) (HTakB : Hid (∀ W, Rd W b (c :: q) bad → Calls Tryd.prog 37 #[.pointer (some ⟨b, 0, none⟩), .string ⟨#[64]⟩] W fun e w' => e = .returned (.bool false) ∧ W = w')) (HTakC : Hid (∀ W, Rd W b (c :: q) bad → Calls Tryd.prog 37 #[.pointer (some ⟨b, 0, none⟩), .string ⟨#[39]⟩] W fun e w' => e = .returned (.bool true) ∧ Rd w' b q bad ∧ W.grownBy w' (some b))) (HWh : Hid (∀ W, Rd W b q bad → Calls Tryd.prog 39 #[.pointer (some ⟨b, 0, none⟩), .func (.func 40) #[] #[]] W fun e w' => e = .returned (.string ⟨s.toArray⟩) ∧ Rd w' b r2 bad ∧ W.grownBy w' (some b))) (HTakD : Hid (∀ W, Rd W b r2 bad → Calls Tryd.prog 37 #[.pointer (some ⟨b, 0, none⟩), .string ⟨#[39]⟩] W fun e w' => e = .returned (.bool true) ∧ Rd w' b r3 bad ∧ W.grownBy w' (some b))) :
    Calls Tryd.prog 22 #[.pointer (some ⟨b, 0, none⟩), .int .i64 d] w (VPost b w (.mk 4 0 s [], r3, bad)) := by
  have hbl := h.lt
  have k0 : w.cell? ⟨b, 0, none⟩ = some (.string ⟨(c :: q).toArray⟩) := h.cell 0
  have HH := Lib.hid h
  clear h
  generalize hrr : (⟨(c :: q).toArray⟩ : ByteArray) = rr at k0
  have n0 : rr.toList.isEmpty = false := by rw [← hrr]; exact ne_nil c q

  clear hrr
  go_enter Tryd.func22, Tryd.ntmps22
  go_wp2_with (first
    | (go_at_call_of 37 (Value.string ⟨#[40, 41]⟩); refine (HTakA.out _ (HH.out.al _)).mono ?_; rintro e w9 ⟨rfl, rfl⟩)
    | (go_at_call_of 37 (Value.string ⟨#[64]⟩); refine (HTakB.out _ (HH.out.al _)).mono ?_; rintro e w9 ⟨rfl, rfl⟩)
    | (go_at_call_of 37 (Value.string ⟨#[39]⟩); refine (HTakC.out _ (HH.out.al _)).mono ?_; rintro e w1 ⟨rfl, hr1, hg1⟩; refine Hid.out ?_))
  have HR1 := Lib.hid hr1
  clear hr1
  refine Lib.hid ?_
  go_wp2_with (go_at_call 39; refine (HWh.out _ HR1.out).mono ?_; rintro e w2 ⟨rfl, hr2, hg2⟩; refine Hid.out ?_)
  have HR2 := Lib.hid hr2
  have hgg := grown_tr hg1 hg2
  clear hr2
  refine Lib.hid ?_
  go_wp2_with (go_at_call 37; refine (HTakD.out _ HR2.out).mono ?_; rintro e w3 ⟨rfl, hr3, hg3⟩; refine Hid.out ?_)
  have hg4 := grown_tr hgg hg3
  have k1 : w3.cell? ⟨b, 1, none⟩ = some (.bool bad) := hr3.cell 1
  have f1 : w3.frozen? ⟨b, 1, none⟩ = false := hr3.frozen 1
  have HR3 := Lib.hid (hr3.flag bad)
  have hg5 := grown_setB hg4 1 (.bool bad)
  clear hr3
  obtain ⟨hB, hlt⟩ := res_block (w := w) hbl hg5
  have z0 := hB.cell 0
  have z1 := hB.cell 1
  have z2 := hB.cell 2
  have z3 := hB.cell 3
  have y0 := hB.frozen 0
  have y1 := hB.frozen 1
  have y2 := hB.frozen 2
  have y3 := hB.frozen 3
  simp only [zeroCells, List.getElem?_toArray, List.getElem?_cons_zero, List.getElem?_cons_succ] at z0 z1 z2 z3
  refine Lib.hid ?_
  go_wp2_with fail
  obtain ⟨p0, p1, p2, p3, _, hrz, hgz⟩ := put4 (c0 := .int .i64 4) (c1 := .int .i64 0) (c2 := .string ⟨s.toArray⟩) (c3 := .slice none 0 0) hB hbl hg5 HR3.out
  exact bodyPost_ret (v := .agg #[.int .i64 4, .int .i64 0, .string ⟨s.toArray⟩, .slice none 0 0]) (by simp [results, Tryd.results22, go_sem, p0, p1, p2, p3]) rfl (VPost.leaf hrz hgz)

set_option maxRecDepth 100000 in
set_option maxHeartbeats 400000 in
theorem value_text_no (b : Nat) (c : UInt8) (q : Bs) (bad : Bool) (d : Int) (w : World) (h : Rd w b (c :: q) bad) (hd : d ≤ 40) (s r2 : Bs) (HTakA : Hid (∀ W, Rd W b (c :: q) bad → Calls Tryd.prog 37 #[.pointer (some ⟨b, 0, none⟩), .string ⟨#[40, 41]⟩] W fun e w' => e = .returned (.bool false) ∧ W = w')) (HTakB : Hid (∀ W, Rd W b (c :: q) bad → Calls Tryd.prog 37 #[.pointer (some ⟨b, 0, none⟩), .string ⟨#[64]⟩] W fun e w' => e = .returned (.bool false) ∧ W = w')) (HTakC : Hid (∀ W, Rd W b (c :: q) bad → Calls Tryd.prog 37 #[.pointer (some ⟨b, 0, none⟩), .string ⟨#[39]⟩] W fun e w' => e = .returned (.bool true) ∧ Rd w' b q bad ∧ W.grownBy w' (some b))) (HWh : Hid (∀ W, Rd W b q bad → Calls Tryd.prog 39 #[.pointer (some ⟨b, 0, none⟩), .func (.func 40) #[] #[]] W fun e w' => e = .returned (.string ⟨s.toArray⟩) ∧ Rd w' b r2 bad ∧ W.grownBy w' (some b))) (HTakD : Hid (∀ W, Rd W b r2 bad → Calls Tryd.prog 37 #[.pointer (some ⟨b, 0, none⟩), .string ⟨#[39]⟩] W fun e w' => e = .returned (.bool false) ∧ W = w')) :
    Calls Tryd.prog 22 #[.pointer (some ⟨b, 0, none⟩), .int .i64 d] w (VPost b w (.mk 4 0 s [], r2, true)) := by
  have hbl := h.lt
  have k0 : w.cell? ⟨b, 0, none⟩ = some (.string ⟨(c :: q).toArray⟩) := h.cell 0
  have HH := Lib.hid h
  clear h
  generalize hrr : (⟨(c :: q).toArray⟩ : ByteArray) = rr at k0
  have n0 : rr.toList.isEmpty = false := by rw [← hrr]; exact ne_nil c q

  clear hrr
  go_enter Tryd.func22, Tryd.ntmps22
  go_wp2_with (first
    | (go_at_call_of 37 (Value.string ⟨#[40, 41]⟩); refine (HTakA.out _ (HH.out.al _)).mono ?_; rintro e w9 ⟨rfl, rfl⟩)
    | (go_at_call_of 37 (Value.string ⟨#[64]⟩); refine (HTakB.out _ (HH.out.al _)).mono ?_; rintro e w9 ⟨rfl, rfl⟩)
    | (go_at_call_of 37 (Value.string ⟨#[39]⟩); refine (HTakC.out _ (HH.out.al _)).mono ?_; rintro e w1 ⟨rfl, hr1, hg1⟩; refine Hid.out ?_))
  have HR1 := Lib.hid hr1
  clear hr1
  refine Lib.hid ?_
  go_wp2_with (go_at_call 39; refine (HWh.out _ HR1.out).mono ?_; rintro e w2 ⟨rfl, hr2, hg2⟩; refine Hid.out ?_)
  have HR2 := Lib.hid hr2
  have hgg := grown_tr hg1 hg2
  clear hr2
  refine Lib.hid ?_
  go_wp2_with (go_at_call 37; refine (HTakD.out _ HR2.out).mono ?_; rintro e w9 ⟨rfl, rfl⟩; refine Hid.out ?_)
  have hg4 := hgg
  have k1 : w2.cell? ⟨b, 1, none⟩ = some (.bool bad) := HR2.out.cell 1
  have f1 : w2.frozen? ⟨b, 1, none⟩ = false := HR2.out.frozen 1
  have HR3 := Lib.hid (HR2.out.flag true)
  have hg5 := grown_setB hg4 1 (.bool true)
  obtain ⟨hB, hlt⟩ := res_block (w := w) hbl hg5
  have z0 := hB.cell 0
  have z1 := hB.cell 1
  have z2 := hB.cell 2
  have z3 := hB.cell 3
  have y0 := hB.frozen 0
  have y1 := hB.frozen 1
  have y2 := hB.frozen 2
  have y3 := hB.frozen 3
  simp only [zeroCells, List.getElem?_toArray, List.getElem?_cons_zero, List.getElem?_cons_succ] at z0 z1 z2 z3
  refine Lib.hid ?_
  go_wp2_with fail
  obtain ⟨p0, p1, p2, p3, _, hrz, hgz⟩ := put4 (c0 := .int .i64 4) (c1 := .int .i64 0) (c2 := .string ⟨s.toArray⟩) (c3 := .slice none 0 0) hB hbl hg5 HR3.out
  exact bodyPost_ret (v := .agg #[.int .i64 4, .int .i64 0, .string ⟨s.toArray⟩, .slice none 0 0]) (by simp [results, Tryd.results22, go_sem, p0, p1, p2, p3]) rfl (VPost.leaf hrz hgz)

set_option maxRecDepth 100000 in
set_option maxHeartbeats 400000 in
theorem value_true (b : Nat) (c : UInt8) (q : Bs) (bad : Bool) (d : Int) (w : World) (h : Rd w b (c :: q) bad) (hd : d ≤ 40) (s r2 : Bs) (hs : s = Ds.trueT) (HTakA : Hid (∀ W, Rd W b (c :: q) bad → Calls Tryd.prog 37 #[.pointer (some ⟨b, 0, none⟩), .string ⟨#[40, 41]⟩] W fun e w' => e = .returned (.bool false) ∧ W = w')) (HTakB : Hid (∀ W, Rd W b (c :: q) bad → Calls Tryd.prog 37 #[.pointer (some ⟨b, 0, none⟩), .string ⟨#[64]⟩] W fun e w' => e = .returned (.bool false) ∧ W = w')) (HTakC : Hid (∀ W, Rd W b (c :: q) bad → Calls Tryd.prog 37 #[.pointer (some ⟨b, 0, none⟩), .string ⟨#[39]⟩] W fun e w' => e = .returned (.bool false) ∧ W = w')) (HIL : Hid (∀ W, Calls Tryd.prog 41 #[.int .u8 (c.toNat : Int)] W fun e w' => e = .returned (.bool true) ∧ W = w')) (HWh : Hid (∀ W, Rd W b (c :: q) bad → Calls Tryd.prog 39 #[.pointer (some ⟨b, 0, none⟩), .func (.func 42) #[] #[]] W fun e w' => e = .returned (.string ⟨s.toArray⟩) ∧ Rd w' b r2 bad ∧ W.grownBy w' (some b))) :
    Calls Tryd.prog 22 #[.pointer (some ⟨b, 0, none⟩), .int .i64 d] w (VPost b w (.mk 3 1 [] [], r2, bad)) := by
  have hbl := h.lt
  have k0 : w.cell? ⟨b, 0, none⟩ = some (.string ⟨(c :: q).toArray⟩) := h.cell 0
  have HH := Lib.hid h
  clear h
  generalize hrr : (⟨(c :: q).toArray⟩ : ByteArray) = rr at k0
  have n0 : rr.toList.isEmpty = false := by rw [← hrr]; exact ne_nil c q
  have s0 : 0 < rr.size := by rw [← hrr]; simp [ByteArray.size]
  have s1 : rr[0] = c := by subst hrr; rfl
  subst hs
  unfold Ds.trueT at HWh
  clear hrr
  go_enter Tryd.func22, Tryd.ntmps22
  go_wp2_with (first
    | (go_at_call_of 37 (Value.string ⟨#[40, 41]⟩); refine (HTakA.out _ (HH.out.al _)).mono ?_; rintro e w9 ⟨rfl, rfl⟩)
    | (go_at_call_of 37 (Value.string ⟨#[64]⟩); refine (HTakB.out _ (HH.out.al _)).mono ?_; rintro e w9 ⟨rfl, rfl⟩)
    | (go_at_call_of 37 (Value.string ⟨#[39]⟩); refine (HTakC.out _ (HH.out.al _)).mono ?_; rintro e w9 ⟨rfl, rfl⟩)
    | (go_at_call 41; refine (HIL.out _).mono ?_; rintro e w9 ⟨rfl, rfl⟩)
    | (go_at_call 39; refine (HWh.out _ (HH.out.al _)).mono ?_; rintro e w1 ⟨rfl, hr1, hg1⟩; refine Hid.out ?_))
  have HR1 := Lib.hid hr1
  clear hr1
  obtain ⟨hB, hlt⟩ := res_block (w := w) hbl hg1
  have z0 := hB.cell 0
  have z1 := hB.cell 1
  have z2 := hB.cell 2
  have z3 := hB.cell 3
  have y0 := hB.frozen 0
  have y1 := hB.frozen 1
  have y2 := hB.frozen 2
  have y3 := hB.frozen 3
  simp only [zeroCells, List.getElem?_toArray, List.getElem?_cons_zero, List.getElem?_cons_succ] at z0 z1 z2 z3
  refine Lib.hid ?_
  go_wp2_with fail
  obtain ⟨p0, p1, p2, p3, _, hrz, hgz⟩ := put4 (c0 := .int .i64 3) (c1 := .int .i64 1) (c2 := .string ⟨#[]⟩) (c3 := .slice none 0 0) hB hbl hg1 HR1.out
  exact bodyPost_ret (v := .agg #[.int .i64 3, .int .i64 1, .string ⟨#[]⟩, .slice none 0 0]) (by simp [results, Tryd.results22, go_sem, p0, p1, p2, p3]) rfl (VPost.leaf hrz hgz)

set_option maxRecDepth 100000 in
set_option maxHeartbeats 400000 in
theorem value_false (b : Nat) (c : UInt8) (q : Bs) (bad : Bool) (d : Int) (w : World) (h : Rd w b (c :: q) bad) (hd : d ≤ 40) (s r2 : Bs) (hs : s = Ds.falseT) (HTakA : Hid (∀ W, Rd W b (c :: q) bad → Calls Tryd.prog 37 #[.pointer (some ⟨b, 0, none⟩), .string ⟨#[40, 41]⟩] W fun e w' => e = .returned (.bool false) ∧ W = w')) (HTakB : Hid (∀ W, Rd W b (c :: q) bad → Calls Tryd.prog 37 #[.pointer (some ⟨b, 0, none⟩), .string ⟨#[64]⟩] W fun e w' => e = .returned (.bool false) ∧ W = w')) (HTakC : Hid (∀ W, Rd W b (c :: q) bad → Calls Tryd.prog 37 #[.pointer (some ⟨b, 0, none⟩), .string ⟨#[39]⟩] W fun e w' => e = .returned (.bool false) ∧ W = w')) (HIL : Hid (∀ W, Calls Tryd.prog 41 #[.int .u8 (c.toNat : Int)] W fun e w' => e = .returned (.bool true) ∧ W = w')) (HWh : Hid (∀ W, Rd W b (c :: q) bad → Calls Tryd.prog 39 #[.pointer (some ⟨b, 0, none⟩), .func (.func 42) #[] #[]] W fun e w' => e = .returned (.string ⟨s.toArray⟩) ∧ Rd w' b r2 bad ∧ W.grownBy w' (some b))) :
    Calls Tryd.prog 22 #[.pointer (some ⟨b, 0, none⟩), .int .i64 d] w (VPost b w (.mk 3 0 [] [], r2, bad)) := by
  have hbl := h.lt
  have k0 : w.cell? ⟨b, 0, none⟩ = some (.string ⟨(c :: q).toArray⟩) := h.cell 0
  have HH := Lib.hid h
  clear h
  generalize hrr : (⟨(c :: q).toArray⟩ : ByteArray) = rr at k0
  have n0 : rr.toList.isEmpty = false := by rw [← hrr]; exact ne_nil c q
  have s0 : 0 < rr.size := by rw [← hrr]; simp [ByteArray.size]
  have s1 : rr[0] = c := by subst hrr; rfl
  subst hs
  unfold Ds.falseT at HWh
  clear hrr
  go_enter Tryd.func22, Tryd.ntmps22
  go_wp2_with (first
    | (go_at_call_of 37 (Value.string ⟨#[40, 41]⟩); refine (HTakA.out _ (HH.out.al _)).mono ?_; rintro e w9 ⟨rfl, rfl⟩)
    | (go_at_call_of 37 (Value.string ⟨#[64]⟩); refine (HTakB.out _ (HH.out.al _)).mono ?_; rintro e w9 ⟨rfl, rfl⟩)
    | (go_at_call_of 37 (Value.string ⟨#[39]⟩); refine (HTakC.out _ (HH.out.al _)).mono ?_; rintro e w9 ⟨rfl, rfl⟩)
    | (go_at_call 41; refine (HIL.out _).mono ?_; rintro e w9 ⟨rfl, rfl⟩)
    | (go_at_call 39; refine (HWh.out _ (HH.out.al _)).mono ?_; rintro e w1 ⟨rfl, hr1, hg1⟩; refine Hid.out ?_))
  have HR1 := Lib.hid hr1
  clear hr1
  obtain ⟨hB, hlt⟩ := res_block (w := w) hbl hg1
  have z0 := hB.cell 0
  have z1 := hB.cell 1
  have z2 := hB.cell 2
  have z3 := hB.cell 3
  have y0 := hB.frozen 0
  have y1 := hB.frozen 1
  have y2 := hB.frozen 2
  have y3 := hB.frozen 3
  simp only [zeroCells, List.getElem?_toArray, List.getElem?_cons_zero, List.getElem?_cons_succ] at z0 z1 z2 z3
  refine Lib.hid ?_
  go_wp2_with fail
  obtain ⟨p0, p1, p2, p3, _, hrz, hgz⟩ := put4 (c0 := .int .i64 3) (c1 := .int .i64 0) (c2 := .string ⟨#[]⟩) (c3 := .slice none 0 0) hB hbl hg1 HR1.out
  exact bodyPost_ret (v := .agg #[.int .i64 3, .int .i64 0, .string ⟨#[]⟩, .slice none 0 0]) (by simp [results, Tryd.results22, go_sem, p0, p1, p2, p3]) rfl (VPost.leaf hrz hgz)

set_option maxRecDepth 100000 in
set_option maxHeartbeats 400000 in
theorem value_name (b : Nat) (c : UInt8) (q : Bs) (bad : Bool) (d : Int) (w : World) (h : Rd w b (c :: q) bad) (hd : d ≤ 40) (s r2 : Bs) (hst : (s == [116, 114, 117, 101]) = false) (hsf : (s == [102, 97, 108, 115, 101]) = false) (HTakA : Hid (∀ W, Rd W b (c :: q) bad → Calls Tryd.prog 37 #[.pointer (some ⟨b, 0, none⟩), .string ⟨#[40, 41]⟩] W fun e w' => e = .returned (.bool false) ∧ W = w')) (HTakB : Hid (∀ W, Rd W b (c :: q) bad → Calls Tryd.prog 37 #[.pointer (some ⟨b, 0, none⟩), .string ⟨#[64]⟩] W fun e w' => e = .returned (.bool false) ∧ W = w')) (HTakC : Hid (∀ W, Rd W b (c :: q) bad → Calls Tryd.prog 37 #[.pointer (some ⟨b, 0, none⟩), .string ⟨#[39]⟩] W fun e w' => e = .returned (.bool false) ∧ W = w')) (HIL : Hid (∀ W, Calls Tryd.prog 41 #[.int .u8 (c.toNat : Int)] W fun e w' => e = .returned (.bool true) ∧ W = w')) (HWh : Hid (∀ W, Rd W b (c :: q) bad → Calls Tryd.prog 39 #[.pointer (some ⟨b, 0, none⟩), .func (.func 42) #[] #[]] W fun e w' => e = .returned (.string ⟨s.toArray⟩) ∧ Rd w' b r2 bad ∧ W.grownBy w' (some b))) (HTakE : Hid (∀ W, Rd W b r2 bad → Calls Tryd.prog 37 #[.pointer (some ⟨b, 0, none⟩), .string ⟨#[40]⟩] W fun e w' => e = .returned (.bool false) ∧ W = w')) :
    Calls Tryd.prog 22 #[.pointer (some ⟨b, 0, none⟩), .int .i64 d] w (VPost b w (.mk 5 0 s [], r2, bad)) := by
  have hbl := h.lt
  have k0 : w.cell? ⟨b, 0, none⟩ = some (.string ⟨(c :: q).toArray⟩) := h.cell 0
  have HH := Lib.hid h
  clear h
  generalize hrr : (⟨(c :: q).toArray⟩ : ByteArray) = rr at k0
  have n0 : rr.toList.isEmpty = false := by rw [← hrr]; exact ne_nil c q
  have s0 : 0 < rr.size := by rw [← hrr]; simp [ByteArray.size]
  have s1 : rr[0] = c := by subst hrr; rfl

  clear hrr
  go_enter Tryd.func22, Tryd.ntmps22
  go_wp2_with (first
    | (go_at_call_of 37 (Value.string ⟨#[40, 41]⟩); refine (HTakA.out _ (HH.out.al _)).mono ?_; rintro e w9 ⟨rfl, rfl⟩)
    | (go_at_call_of 37 (Value.string ⟨#[64]⟩); refine (HTakB.out _ (HH.out.al _)).mono ?_; rintro e w9 ⟨rfl, rfl⟩)
    | (go_at_call_of 37 (Value.string ⟨#[39]⟩); refine (HTakC.out _ (HH.out.al _)).mono ?_; rintro e w9 ⟨rfl, rfl⟩)
    | (go_at_call 41; refine (HIL.out _).mono ?_; rintro e w9 ⟨rfl, rfl⟩)
    | (go_at_call 39; refine (HWh.out _ (HH.out.al _)).mono ?_; rintro e w1 ⟨rfl, hr1, hg1⟩; refine Hid.out ?_))
  have HR1 := Lib.hid hr1
  have hgv := grown_al hg1 (.cells #[.int .i64 5, .int .i64 0, .string ⟨s.toArray⟩, .slice none 0 0] 34)
  clear hr1
  refine Lib.hid ?_
  go_wp2_with (go_at_call 37; refine (HTakE.out _ (HR1.out.al _)).mono ?_; rintro e w9 ⟨rfl, rfl⟩; refine Hid.out ?_)
  have HRv := Lib.hid (HR1.out.al (.cells #[.int .i64 5, .int .i64 0, .string ⟨s.toArray⟩, .slice none 0 0] 34))
  obtain ⟨hB, hlt⟩ := res_block (w := w) hbl hgv
  have z0 := hB.cell 0
  have z1 := hB.cell 1
  have z2 := hB.cell 2
  have z3 := hB.cell 3
  have y0 := hB.frozen 0
  have y1 := hB.frozen 1
  have y2 := hB.frozen 2
  have y3 := hB.frozen 3
  simp only [zeroCells, List.getElem?_toArray, List.getElem?_cons_zero, List.getElem?_cons_succ] at z0 z1 z2 z3
  refine Lib.hid ?_
  go_wp2_with fail
  obtain ⟨p0, p1, p2, p3, _, hrz, hgz⟩ := put4 (c0 := .int .i64 5) (c1 := .int .i64 0) (c2 := .string ⟨s.toArray⟩) (c3 := .slice none 0 0) hB hbl hgv HRv.out
  exact bodyPost_ret (v := .agg #[.int .i64 5, .int .i64 0, .string ⟨s.toArray⟩, .slice none 0 0]) (by simp [results, Tryd.results22, go_sem, p0, p1, p2, p3]) rfl (VPost.leaf hrz hgz)

end Go.Proofs.YtbfiejgdgdlciaaDoor
