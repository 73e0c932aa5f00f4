/-
  THE READER's number, call by call.
-/
import Derived.Test.YtbfiejgdgdlciaaDoorW7
namespace Go.Proofs.YtbfiejgdgdlciaaDoor
open Go.RowKit
open Ds (V Bs D)

theorem Rd.below {w w' : World} {b : Nat} {r : Bs} {bad : Bool} (h : Rd w b r bad) (hb : Below w.heap.size w w') : Rd w' b r bad := Blk.below h hb (Blk.lt h)
theorem grown_below {a w w' : World} {row : Option Nat} (h : a.grownBy w row) (hb : Below w.heap.size w w') : a.grownBy w' row :=
  ⟨hb.os.trans h.os, hb.tape.trans h.tape, hb.output.trans h.output, Nat.le_trans h.size hb.size, fun i hi hn => (hb.block i (Nat.lt_of_lt_of_le hi h.size)).trans (h.block i hi hn)⟩
theorem grown_setB {a w : World} {b : Nat} (h : a.grownBy w (some b)) (i : Nat) (u : Value) : a.grownBy (w.setCell ⟨b, i, none⟩ u) (some b) :=
  ⟨h.os, h.tape, h.output, by simpa [World.setCell] using h.size, fun k hk hne => (Below.heap_setCell _ _ _ _ (fun e => hne (by rw [e]))).trans (h.block k hk hne)⟩
theorem grown_tr {a w w' : World} {row : Option Nat} (h : a.grownBy w row) (k : w.grownBy w' row) : a.grownBy w' row :=
  ⟨k.os.trans h.os, k.tape.trans h.tape, k.output.trans h.output, Nat.le_trans h.size k.size, fun i hi hn => (k.block i (Nat.lt_of_lt_of_le hi h.size) hn).trans (h.block i hi hn)⟩

set_option maxHeartbeats 400000 in
theorem number_ok (b : Nat) (r s r2 : Bs) (bad : Bool) (n : Int) (w : World) (h : Rd w b r bad) (he : Env w) (hb8 : 8 ≤ b)
    (HW : Hid (∀ W : World, Rd W b r bad → Calls Tryd.prog 39 #[.pointer (some ⟨b, 0, none⟩), .func (.func 53) #[] #[]] W fun e w' => e = .returned (.string ⟨s.toArray⟩) ∧ Rd w' b r2 bad ∧ W.grownBy w' (some b)))
    (HC : Hid (∀ W, Calls Tryd.prog 32 #[.string ⟨s.toArray⟩] W fun e w' => e = .returned (.tuple #[.int .i64 n, .nilIface]) ∧ Below W.heap.size W w')) (q : Bs)
    (HI : Hid (∀ W, Env W → Calls Tryd.prog 16 #[.int .i64 n] W fun e w' => e = .returned (.string ⟨q.toArray⟩) ∧ Below W.heap.size W w')) :
    Calls Tryd.prog 38 #[.pointer (some ⟨b, 0, none⟩)] w fun e w' => e = .returned (.int .i64 n) ∧ Rd w' b r2 (bad || !(q == s)) ∧ w.grownBy w' (some b) := by
  have HH := Lib.hid h
  have HE := Lib.hid he
  clear h he
  go_enter Tryd.func38, Tryd.ntmps38
  go_wp2_with (go_at_call 39; refine (HW.out _ HH.out).mono ?_; rintro e w1 ⟨rfl, hr1, hg1⟩; refine Hid.out ?_)
  have HR1 := Lib.hid hr1
  have hE1 := Lib.hid (HE.out.grown hg1 hb8)
  clear hr1
  refine Lib.hid ?_
  go_wp2_with (go_at_call 32; refine (HC.out _).mono ?_; rintro e w2 ⟨rfl, hb2⟩; refine Hid.out ?_)
  have hR2 := HR1.out.below hb2
  have hE2 := Lib.hid (hE1.out.below hb2 hE1.out.sz)
  have hg2 := grown_below hg1 hb2
  have k1 : w2.cell? ⟨b, 1, none⟩ = some (.bool bad) := hR2.cell 1
  have f1 : w2.frozen? ⟨b, 1, none⟩ = false := hR2.frozen 1
  have HR2 := Lib.hid hR2
  clear hR2 hb2
  cases bad
  · by_cases hqs : q = s
    · subst hqs
      refine Lib.hid ?_
      go_wp2_with (go_at_call 16; refine (HI.out _ hE2.out).mono ?_; rintro e w3 ⟨rfl, hb3⟩; refine Hid.out ?_)
      have hR3 := HR2.out.below hb3
      have hg3 := grown_below hg2 hb3
      have k1 : w3.cell? ⟨b, 1, none⟩ = some (.bool false) := hR3.cell 1
      have f1 : w3.frozen? ⟨b, 1, none⟩ = false := hR3.frozen 1
      have HR3 := Lib.hid hR3
      clear hR3 hb3
      refine Lib.hid ?_
      go_wp2_with fail
      go_ret
      exact ⟨rfl, by simpa using HR3.out.flag false, grown_setB hg3 1 _⟩
    · have hqs' : (q == s) = false := by simpa using hqs
      have HQS := Lib.hid hqs'
      refine Lib.hid ?_
      go_wp2_with (go_at_call 16; refine (HI.out _ hE2.out).mono ?_; rintro e w3 ⟨rfl, hb3⟩; refine Hid.out ?_)
      have hR3 := HR2.out.below hb3
      have hg3 := grown_below hg2 hb3
      have k1 : w3.cell? ⟨b, 1, none⟩ = some (.bool false) := hR3.cell 1
      have f1 : w3.frozen? ⟨b, 1, none⟩ = false := hR3.frozen 1
      have HR3 := Lib.hid hR3
      clear hR3 hb3
      refine Lib.hid ?_
      go_wp2_with fail
      go_ret
      exact ⟨rfl, by rw [HQS.out]; exact HR3.out.flag true, grown_setB hg3 1 _⟩
  · refine Lib.hid ?_
    go_wp2_with fail
    go_ret
    exact ⟨rfl, HR2.out.flag true, grown_setB hg2 1 _⟩

set_option maxHeartbeats 400000 in
theorem number_err (b : Nat) (r s r2 : Bs) (bad : Bool) (n : Int) (w : World) (h : Rd w b r bad) (he : Env w) (hb8 : 8 ≤ b)
    (HW : Hid (∀ W : World, Rd W b r bad → Calls Tryd.prog 39 #[.pointer (some ⟨b, 0, none⟩), .func (.func 53) #[] #[]] W fun e w' => e = .returned (.string ⟨s.toArray⟩) ∧ Rd w' b r2 bad ∧ W.grownBy w' (some b)))
    (HC : Hid (∀ W, Env W → Calls Tryd.prog 32 #[.string ⟨s.toArray⟩] W fun e w' => ∃ N, e = .returned (.tuple #[.int .i64 n, .iface 94 (.pointer (some ⟨N, 0, none⟩))]) ∧ Below W.heap.size W w')) :
    Calls Tryd.prog 38 #[.pointer (some ⟨b, 0, none⟩)] w fun e w' => e = .returned (.int .i64 n) ∧ Rd w' b r2 true ∧ w.grownBy w' (some b) := by
  have HH := Lib.hid h
  have HE := Lib.hid he
  clear h he
  go_enter Tryd.func38, Tryd.ntmps38
  go_wp2_with (go_at_call 39; refine (HW.out _ HH.out).mono ?_; rintro e w1 ⟨rfl, hr1, hg1⟩; refine Hid.out ?_)
  have HR1 := Lib.hid hr1
  have hE1 := Lib.hid (HE.out.grown hg1 hb8)
  clear hr1
  refine Lib.hid ?_
  go_wp2_with (go_at_call 32; refine (HC.out _ hE1.out).mono ?_; rintro e w2 ⟨N, rfl, hb2⟩; refine Hid.out ?_)
  have hR2 := HR1.out.below hb2
  have hg2 := grown_below hg1 hb2
  have k1 : w2.cell? ⟨b, 1, none⟩ = some (.bool bad) := hR2.cell 1
  have f1 : w2.frozen? ⟨b, 1, none⟩ = false := hR2.frozen 1
  have HR2 := Lib.hid hR2
  clear hR2 hb2
  cases bad
  · refine Lib.hid ?_
    go_wp2_with fail
    go_ret
    exact ⟨rfl, HR2.out.flag true, grown_setB hg2 1 _⟩
  · refine Lib.hid ?_
    go_wp2_with fail
    go_ret
    exact ⟨rfl, HR2.out.flag true, grown_setB hg2 1 _⟩

/-- (*reader).number -/
theorem number_calls (b : Nat) (r : Bs) (bad : Bool) (w : World) (h : Rd w b r bad) (hr : r.length ≤ 16777216) (he : Env w) (hb8 : 8 ≤ b) :
    Calls Tryd.prog 38 #[.pointer (some ⟨b, 0, none⟩)] w fun e w' => e = .returned (.int .i64 (Ds.numF r bad).1) ∧ Rd w' b (Ds.numF r bad).2.1 (Ds.numF r bad).2.2 ∧ w.grownBy w' (some b) := by
  have hw := fun (W : World) (hW : Rd W b r bad) => while_53 b r bad W hW (by omega)
  have hsl : (r.takeWhile Ds.numB).length ≤ r.length := (List.takeWhile_sublist _).length_le
  have hin := atoiN_in (r.takeWhile Ds.numB)
  have hsz : (⟨(r.takeWhile Ds.numB).toArray⟩ : ByteArray).size ≤ 281474976710656 := by simp only [ByteArray.size, List.size_toArray]; omega
  unfold Ds.numF
  rcases atoi_cases (r.takeWhile Ds.numB) with ⟨n, hn⟩ | ⟨n, hn⟩
  · have hc := fun W => atoi_ok_calls ⟨(r.takeWhile Ds.numB).toArray⟩ hsz n hn W
    rw [hn] at hin ⊢
    have h1 := number_ok b r (r.takeWhile Ds.numB) (r.dropWhile Ds.numB) bad n w h he hb8 (Lib.hid hw) (Lib.hid hc) (Lib.itoa n) (Lib.hid fun W hE => itoa_calls n hin.1 hin.2 W hE)
    simpa using h1
  · have hc := fun (W : World) (hE : Env W) => atoi_err_calls ⟨(r.takeWhile Ds.numB).toArray⟩ hsz n hn W hE
    rw [hn]
    have h1 := number_err b r (r.takeWhile Ds.numB) (r.dropWhile Ds.numB) bad n w h he hb8 (Lib.hid hw) (Lib.hid hc)
    simpa using h1
end Go.Proofs.YtbfiejgdgdlciaaDoor
