/-
  THE READER's value, call by call: the ways without arguments.
-/
import Derived.Test.YtbfiejgdgdlciaaDoorW8
namespace Go.Proofs.YtbfiejgdgdlciaaDoor
open Go.RowKit
open Ds (V Bs D)

/-- what (*reader).value leaves: a value that reads as x, the reader, and nothing else turned -/
def VPost (b : Nat) (w : World) (o : V × Bs × Bool) (e : Ending) (w' : World) : Prop :=
  ∃ c0 c1 c2 c3, e = .returned (.agg #[c0, c1, c2, c3]) ∧ RV w' (fun k => w.heap.size ≤ k) o.1 c0 c1 c2 c3 ∧ Rd w' b o.2.1 o.2.2 ∧ w.grownBy w' (some b)

theorem VPost.leaf {b : Nat} {w w' : World} {k n : Int} {t : Bs} {r : Bs} {bad : Bool} (hr : Rd w' b r bad) (hg : w.grownBy w' (some b)) :
    VPost b w (.mk k n t [], r, bad) (.returned (.agg #[.int .i64 k, .int .i64 n, .string ⟨t.toArray⟩, .slice none 0 0])) w' :=
  ⟨_, _, _, _, rfl, by simp [RV, RL], hr, hg⟩

theorem grown_al {a w : World} {row : Option Nat} (h : a.grownBy w row) (o : Obj) : a.grownBy (w.alloc o) row :=
  grown_below h ((Below.refl _ _).alloc (Nat.le_refl _) o)
theorem grown_new {a w : World} {b : Nat} (h : a.grownBy w (some b)) {p : Addr} (hp : a.heap.size ≤ p.block) (u : Value) : a.grownBy (w.setCell p u) (some b) :=
  ⟨h.os, h.tape, h.output, by simpa [World.setCell] using h.size, fun k hk hne => (Below.heap_setCell _ _ _ _ (by omega)).trans (h.block k hk hne)⟩

set_option maxRecDepth 100000 in
set_option maxHeartbeats 400000 in
theorem value_deep (b : Nat) (r : Bs) (bad : Bool) (d : Int) (w : World) (h : Rd w b r bad) (hd : 40 < d) :
    Calls Tryd.prog 22 #[.pointer (some ⟨b, 0, none⟩), .int .i64 d] w (VPost b w (Ds.zeroV, r, true)) := by
  have hbl := h.lt
  have k1 : w.cell? ⟨b, 1, none⟩ = some (.bool bad) := h.cell 1
  have f1 : w.frozen? ⟨b, 1, none⟩ = false := h.frozen 1
  have HH := Lib.hid h
  clear h
  go_enter Tryd.func22, Tryd.ntmps22
  go_wp2_with fail
  exact bodyPost_ret (v := .agg #[.int .i64 0, .int .i64 0, .string ⟨#[]⟩, .slice none 0 0]) (by simp [results, Tryd.results22, go_sem]) rfl
    (VPost.leaf (Blk.alloc (HH.out.flag true) _) (grown_al (grown_set w b 1 _) _))

set_option maxRecDepth 100000 in
set_option maxHeartbeats 400000 in
theorem value_empty (b : Nat) (bad : Bool) (d : Int) (w : World) (h : Rd w b [] bad) (hd : d ≤ 40) :
    Calls Tryd.prog 22 #[.pointer (some ⟨b, 0, none⟩), .int .i64 d] w (VPost b w (Ds.zeroV, [], true)) := by
  have hbl := h.lt
  have k0 : w.cell? ⟨b, 0, none⟩ = some (.string ⟨#[]⟩) := h.cell 0
  have k1 : w.cell? ⟨b, 1, none⟩ = some (.bool bad) := h.cell 1
  have f1 : w.frozen? ⟨b, 1, none⟩ = false := h.frozen 1
  have HH := Lib.hid h
  clear h
  go_enter Tryd.func22, Tryd.ntmps22
  go_wp2_with fail
  exact bodyPost_ret (v := .agg #[.int .i64 0, .int .i64 0, .string ⟨#[]⟩, .slice none 0 0]) (by simp [results, Tryd.results22, go_sem]) rfl
    (VPost.leaf (Blk.alloc (HH.out.flag true) _) (grown_al (grown_set w b 1 _) _))

/-- what every further way begins with: the result's cell is laid -/
def zeroCells : Array Value := #[.int .i64 0, .int .i64 0, .string ⟨#[]⟩, .slice none 0 0]

theorem Rd.al {w : World} {b : Nat} {r : Bs} {bad : Bool} (h : Rd w b r bad) (o : Obj) : Rd (w.alloc o) b r bad := Blk.alloc h o
theorem res_block {w w1 : World} {b : Nat} (hb : b < w.heap.size) (hg : (w.alloc (.cells #[.int .i64 0, .int .i64 0, .string ⟨#[]⟩, .slice none 0 0] 34)).grownBy w1 (some b)) :
    Blk w1 w.heap.size 34 zeroCells ∧ w.heap.size < w1.heap.size := by
  have h := (Blk.new w 34 zeroCells).grown hg (fun e => by injection e; omega)
  exact ⟨h, h.lt⟩
/-- the result's cell is written -/
theorem put4 {w w1 : World} {b : Nat} {r : Bs} {bad : Bool} {t : TypeId} {cs : Array Value} {c0 c1 c2 c3 : Value} {x0 x1 x2 x3 : Value} (hB : Blk w1 w.heap.size 34 #[x0, x1, x2, x3]) (hb : b < w.heap.size) (hg : (w.alloc (.cells cs t)).grownBy w1 (some b)) (hr : Rd w1 b r bad) :
    ((((w1.setCell ⟨w.heap.size, 0, none⟩ c0).setCell ⟨w.heap.size, 1, none⟩ c1).setCell ⟨w.heap.size, 2, none⟩ c2).setCell ⟨w.heap.size, 3, none⟩ c3).cell? ⟨w.heap.size, 0, none⟩ = some c0 ∧
    ((((w1.setCell ⟨w.heap.size, 0, none⟩ c0).setCell ⟨w.heap.size, 1, none⟩ c1).setCell ⟨w.heap.size, 2, none⟩ c2).setCell ⟨w.heap.size, 3, none⟩ c3).cell? ⟨w.heap.size, 1, none⟩ = some c1 ∧
    ((((w1.setCell ⟨w.heap.size, 0, none⟩ c0).setCell ⟨w.heap.size, 1, none⟩ c1).setCell ⟨w.heap.size, 2, none⟩ c2).setCell ⟨w.heap.size, 3, none⟩ c3).cell? ⟨w.heap.size, 2, none⟩ = some c2 ∧
    ((((w1.setCell ⟨w.heap.size, 0, none⟩ c0).setCell ⟨w.heap.size, 1, none⟩ c1).setCell ⟨w.heap.size, 2, none⟩ c2).setCell ⟨w.heap.size, 3, none⟩ c3).cell? ⟨w.heap.size, 3, none⟩ = some c3 ∧
    Blk ((((w1.setCell ⟨w.heap.size, 0, none⟩ c0).setCell ⟨w.heap.size, 1, none⟩ c1).setCell ⟨w.heap.size, 2, none⟩ c2).setCell ⟨w.heap.size, 3, none⟩ c3) w.heap.size 34 #[c0, c1, c2, c3] ∧
    Rd ((((w1.setCell ⟨w.heap.size, 0, none⟩ c0).setCell ⟨w.heap.size, 1, none⟩ c1).setCell ⟨w.heap.size, 2, none⟩ c2).setCell ⟨w.heap.size, 3, none⟩ c3) b r bad ∧
    w.grownBy ((((w1.setCell ⟨w.heap.size, 0, none⟩ c0).setCell ⟨w.heap.size, 1, none⟩ c1).setCell ⟨w.heap.size, 2, none⟩ c2).setCell ⟨w.heap.size, 3, none⟩ c3) (some b) := by
  have hP : Blk ((((w1.setCell ⟨w.heap.size, 0, none⟩ c0).setCell ⟨w.heap.size, 1, none⟩ c1).setCell ⟨w.heap.size, 2, none⟩ c2).setCell ⟨w.heap.size, 3, none⟩ c3) w.heap.size 34 #[c0, c1, c2, c3] :=
    (((hB.set_ 0 c0).set_ 1 c1).set_ 2 c2).set_ 3 c3
  have hne : ∀ i : Nat, b ≠ (⟨w.heap.size, i, none⟩ : Addr).block := fun i => by simp; omega
  have hg0 : w.grownBy w1 (some b) := grown_tr (grown_of_below ((Below.refl _ _).alloc (Nat.le_refl _) _) (some b)) hg
  exact ⟨hP.cell 0, hP.cell 1, hP.cell 2, hP.cell 3, hP, (((Blk.far hr (hne 0) _).far (hne 1) _).far (hne 2) _).far (hne 3) _,
    grown_new (p := ⟨w.heap.size, 3, none⟩) (grown_new (p := ⟨w.heap.size, 2, none⟩) (grown_new (p := ⟨w.heap.size, 1, none⟩) (grown_new (p := ⟨w.heap.size, 0, none⟩) hg0 (Nat.le_refl _) _) (Nat.le_refl _) _) (Nat.le_refl _) _) (Nat.le_refl _) _⟩
theorem ne_nil (c : UInt8) (q : Bs) : (⟨(c :: q).toArray⟩ : ByteArray).toList.isEmpty = false := by
  rw [Go.ByteArray.toList_eq]; rfl

set_option maxRecDepth 100000 in
set_option maxHeartbeats 400000 in
theorem value_unit (b : Nat) (c : UInt8) (q : Bs) (bad : Bool) (d : Int) (w : World) (h : Rd w b (c :: q) bad) (hd : d ≤ 40) (hl : (c :: q).length ≤ 16777216) (hp : Ds.hasP [40, 41] (c :: q) = true) :
    Calls Tryd.prog 22 #[.pointer (some ⟨b, 0, none⟩), .int .i64 d] w (VPost b w (.mk 1 0 [] [], q.drop 1, bad)) := by
  have hbl := h.lt
  have k0 : w.cell? ⟨b, 0, none⟩ = some (.string ⟨(c :: q).toArray⟩) := h.cell 0
  have hc : ∀ W, Rd W b (c :: q) bad → Calls Tryd.prog 37 #[.pointer (some ⟨b, 0, none⟩), .string ⟨#[40, 41]⟩] W fun e w' => e = .returned (.bool true) ∧ Rd w' b (q.drop 1) bad ∧ W.grownBy w' (some b) :=
    fun W hW => take_yes b [40, 41] (c :: q) bad W hW hp (by omega)
  have HH := Lib.hid h
  have HC := Lib.hid hc
  have HL := Lib.hid hl
  clear h hc hl hp
  generalize hrr : (⟨(c :: q).toArray⟩ : ByteArray) = rr at k0
  have n0 : rr.toList.isEmpty = false := by rw [← hrr]; exact ne_nil c q
  clear hrr
  go_enter Tryd.func22, Tryd.ntmps22
  go_wp2_with (go_at_call 37; refine (HC.out _ (HH.out.al _)).mono ?_; rintro e w1 ⟨rfl, hr1, hg1⟩; refine Hid.out ?_)
  obtain ⟨hB, hlt⟩ := res_block (w := w) hbl hg1
  have z0 := hB.cell 0
  have z1 := hB.cell 1
  have z2 := hB.cell 2
  have z3 := hB.cell 3
  have y0 := hB.frozen 0
  have y1 := hB.frozen 1
  have y2 := hB.frozen 2
  have y3 := hB.frozen 3
  simp only [zeroCells, List.getElem?_toArray, List.getElem?_cons_zero, List.getElem?_cons_succ] at z0 z1 z2 z3
  have HR1 := Lib.hid hr1
  clear hr1
  refine Lib.hid ?_
  go_wp2_with fail
  obtain ⟨p0, p1, p2, p3, _, hr2, hg2⟩ := put4 (c0 := .int .i64 1) (c1 := .int .i64 0) (c2 := .string ⟨#[]⟩) (c3 := .slice none 0 0) hB hbl hg1 HR1.out
  exact bodyPost_ret (v := .agg #[.int .i64 1, .int .i64 0, .string ⟨#[]⟩, .slice none 0 0]) (by simp [results, Tryd.results22, go_sem, p0, p1, p2, p3]) rfl (VPost.leaf hr2 hg2)
set_option maxRecDepth 100000 in
set_option maxHeartbeats 400000 in
theorem value_ref (b : Nat) (c : UInt8) (q : Bs) (bad : Bool) (d : Int) (w : World) (h : Rd w b (c :: q) bad) (hd : d ≤ 40) (he : Env w) (hb8 : 8 ≤ b) (nn : Int) (r2 : Bs) (bad2 : Bool) (HTakA : Hid (∀ W, Rd W b (c :: q) bad → Calls Tryd.prog 37 #[.pointer (some ⟨b, 0, none⟩), .string ⟨#[40, 41]⟩] W fun e w' => e = .returned (.bool false) ∧ W = w')) (HTakB : Hid (∀ W, Rd W b (c :: q) bad → Calls Tryd.prog 37 #[.pointer (some ⟨b, 0, none⟩), .string ⟨#[64]⟩] W fun e w' => e = .returned (.bool true) ∧ Rd w' b q bad ∧ W.grownBy w' (some b))) (HNum : Hid (∀ W, Rd W b q bad → Env W → Calls Tryd.prog 38 #[.pointer (some ⟨b, 0, none⟩)] W fun e w' => e = .returned (.int .i64 nn) ∧ Rd w' b r2 bad2 ∧ W.grownBy w' (some b))) :
    Calls Tryd.prog 22 #[.pointer (some ⟨b, 0, none⟩), .int .i64 d] w (VPost b w (.mk 6 nn [] [], r2, bad2)) := by
  have hbl := h.lt
  have k0 : w.cell? ⟨b, 0, none⟩ = some (.string ⟨(c :: q).toArray⟩) := h.cell 0
  have HH := Lib.hid h
  clear h
  generalize hrr : (⟨(c :: q).toArray⟩ : ByteArray) = rr at k0
  have n0 : rr.toList.isEmpty = false := by rw [← hrr]; exact ne_nil c q
  have HE := Lib.hid he
  clear he
  clear hrr
  go_enter Tryd.func22, Tryd.ntmps22
  go_wp2_with (first
    | (go_at_call_of 37 (Value.string ⟨#[40, 41]⟩); refine (HTakA.out _ (HH.out.al _)).mono ?_; rintro e w9 ⟨rfl, rfl⟩)
    | (go_at_call_of 37 (Value.string ⟨#[64]⟩); refine (HTakB.out _ (HH.out.al _)).mono ?_; rintro e w1 ⟨rfl, hr1, hg1⟩; refine Hid.out ?_))
  have HR1 := Lib.hid hr1
  have hE1 := Lib.hid ((HE.out.alloc _).grown hg1 hb8)
  clear hr1
  refine Lib.hid ?_
  go_wp2_with (go_at_call 38; refine (HNum.out _ HR1.out hE1.out).mono ?_; rintro e w2 ⟨rfl, hr2, hg2⟩; refine Hid.out ?_)
  have HR2 := Lib.hid hr2
  have hgg := grown_tr hg1 hg2
  clear hr2
  obtain ⟨hB, hlt⟩ := res_block (w := w) hbl hgg
  have z0 := hB.cell 0
  have z1 := hB.cell 1
  have z2 := hB.cell 2
  have z3 := hB.cell 3
  have y0 := hB.frozen 0
  have y1 := hB.frozen 1
  have y2 := hB.frozen 2
  have y3 := hB.frozen 3
  simp only [zeroCells, List.getElem?_toArray, List.getElem?_cons_zero, List.getElem?_cons_succ] at z0 z1 z2 z3
  refine Lib.hid ?_
  go_wp2_with fail
  obtain ⟨p0, p1, p2, p3, _, hrz, hgz⟩ := put4 (c0 := .int .i64 6) (c1 := .int .i64 nn) (c2 := .string ⟨#[]⟩) (c3 := .slice none 0 0) hB hbl hgg HR2.out
  exact bodyPost_ret (v := .agg #[.int .i64 6, .int .i64 nn, .string ⟨#[]⟩, .slice none 0 0]) (by simp [results, Tryd.results22, go_sem, p0, p1, p2, p3]) rfl (VPost.leaf hrz hgz)

set_option maxRecDepth 100000 in
set_option maxHeartbeats 400000 in
theorem value_int (b : Nat) (c : UInt8) (q : Bs) (bad : Bool) (d : Int) (w : World) (h : Rd w b (c :: q) bad) (hd : d ≤ 40) (he : Env w) (nn : Int) (r2 : Bs) (bad2 : Bool) (HTakA : Hid (∀ W, Rd W b (c :: q) bad → Calls Tryd.prog 37 #[.pointer (some ⟨b, 0, none⟩), .string ⟨#[40, 41]⟩] W fun e w' => e = .returned (.bool false) ∧ W = w')) (HTakB : Hid (∀ W, Rd W b (c :: q) bad → Calls Tryd.prog 37 #[.pointer (some ⟨b, 0, none⟩), .string ⟨#[64]⟩] W fun e w' => e = .returned (.bool false) ∧ W = w')) (HTakC : Hid (∀ W, Rd W b (c :: q) bad → Calls Tryd.prog 37 #[.pointer (some ⟨b, 0, none⟩), .string ⟨#[39]⟩] W fun e w' => e = .returned (.bool false) ∧ W = w')) (HIL : Hid (∀ W, Calls Tryd.prog 41 #[.int .u8 (c.toNat : Int)] W fun e w' => e = .returned (.bool false) ∧ W = w')) (HNum : Hid (∀ W, Rd W b (c :: q) bad → Env W → Calls Tryd.prog 38 #[.pointer (some ⟨b, 0, none⟩)] W fun e w' => e = .returned (.int .i64 nn) ∧ Rd w' b r2 bad2 ∧ W.grownBy w' (some b))) :
    Calls Tryd.prog 22 #[.pointer (some ⟨b, 0, none⟩), .int .i64 d] w (VPost b w (.mk 2 nn [] [], r2, bad2)) := by
  have hbl := h.lt
  have k0 : w.cell? ⟨b, 0, none⟩ = some (.string ⟨(c :: q).toArray⟩) := h.cell 0
  have HH := Lib.hid h
  clear h
  generalize hrr : (⟨(c :: q).toArray⟩ : ByteArray) = rr at k0
  have n0 : rr.toList.isEmpty = false := by rw [← hrr]; exact ne_nil c q
  have s0 : 0 < rr.size := by rw [← hrr]; simp [ByteArray.size]
  have s1 : rr[0] = c := by subst hrr; rfl
  have HE := Lib.hid he
  clear he
  clear hrr
  go_enter Tryd.func22, Tryd.ntmps22
  go_wp2_with (first
    | (go_at_call_of 37 (Value.string ⟨#[40, 41]⟩); refine (HTakA.out _ (HH.out.al _)).mono ?_; rintro e w9 ⟨rfl, rfl⟩)
    | (go_at_call_of 37 (Value.string ⟨#[64]⟩); refine (HTakB.out _ (HH.out.al _)).mono ?_; rintro e w9 ⟨rfl, rfl⟩)
    | (go_at_call_of 37 (Value.string ⟨#[39]⟩); refine (HTakC.out _ (HH.out.al _)).mono ?_; rintro e w9 ⟨rfl, rfl⟩)
    | (go_at_call 41; refine (HIL.out _).mono ?_; rintro e w9 ⟨rfl, rfl⟩)
    | (go_at_call 38; refine (HNum.out _ (HH.out.al _) (HE.out.alloc _)).mono ?_; rintro e w1 ⟨rfl, hr1, hg1⟩; refine Hid.out ?_))
  have HR1 := Lib.hid hr1
  clear hr1
  obtain ⟨hB, hlt⟩ := res_block (w := w) hbl hg1
  have z0 := hB.cell 0
  have z1 := hB.cell 1
  have z2 := hB.cell 2
  have z3 := hB.cell 3
  have y0 := hB.frozen 0
  have y1 := hB.frozen 1
  have y2 := hB.frozen 2
  have y3 := hB.frozen 3
  simp only [zeroCells, List.getElem?_toArray, List.getElem?_cons_zero, List.getElem?_cons_succ] at z0 z1 z2 z3
  refine Lib.hid ?_
  go_wp2_with fail
  obtain ⟨p0, p1, p2, p3, _, hrz, hgz⟩ := put4 (c0 := .int .i64 2) (c1 := .int .i64 nn) (c2 := .string ⟨#[]⟩) (c3 := .slice none 0 0) hB hbl hg1 HR1.out
  exact bodyPost_ret (v := .agg #[.int .i64 2, .int .i64 nn, .string ⟨#[]⟩, .slice none 0 0]) (by simp [results, Tryd.results22, go_sem, p0, p1, p2, p3]) rfl (VPost.leaf hrz hgz)

end Go.Proofs.YtbfiejgdgdlciaaDoor
