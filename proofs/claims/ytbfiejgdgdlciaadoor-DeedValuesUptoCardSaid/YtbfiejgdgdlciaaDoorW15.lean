/-
  deed.parse: what its plain function says word by word, and what lies in memory while it reads.
-/
import Derived.Test.YtbfiejgdgdlciaaDoorW13
import Derived.Test.YtbfiejgdgdlciaaDoorW14
import Derived.Test.YtbfiejgdgdlciaaDoorW6
namespace Go.Proofs.YtbfiejgdgdlciaaDoor
open Go.RowKit
open Ds (V Bs D)

namespace Ds
/-- the numbers of a line, one behind another -/
def numP (r : List Bs) (k : Int) : Nat → Nat → Int → Int → Option D
  | 0, i, a, b => textP k a b (r.drop i)
  | m + 1, i, a, b => if (atoiN (r.getD i [])).2 then none else numP r k m (i + 1) (if i = 0 then (atoiN (r.getD i [])).1 else a) (if i = 0 then b else (atoiN (r.getD i [])).1)

theorem parseF_cons (t : Bs) (r : List Bs) : parseF (t :: r) = if kindF t = 0 ∨ r.length < numbersF (kindF t) then none else numP r (kindF t) (numbersF (kindF t)) 0 0 0 := by
  have hc : numbersF (kindF t) = 2 ∨ numbersF (kindF t) = 0 ∨ numbersF (kindF t) = 1 := by
    unfold numbersF; split
    · exact Or.inl rfl
    · split
      · exact Or.inr (Or.inl rfl)
      · exact Or.inr (Or.inr rfl)
  simp only [parseF]
  split
  · rfl
  · rcases hc with h | h | h
    · rw [h]; simp [numP]
    · rw [h]; simp [numP]
    · rw [h]; simp [numP]

/-- the arguments behind those that are read -/
def moreP (k a b : Int) (t : Bs) (xs : List V) (l : List Bs) : Option D := (argsP l).map fun x => ⟨k, a, b, t, xs ++ x⟩

theorem moreP_nil (k a b : Int) (t : Bs) (xs : List V) : moreP k a b t xs [] = some ⟨k, a, b, t, xs⟩ := by simp [moreP, argsP]
theorem moreP_cons (k a b : Int) (t : Bs) (xs : List V) (s : Bs) (l : List Bs) : moreP k a b t xs (s :: l) = if (valF s).2 = 0 then moreP k a b t (xs ++ [(valF s).1]) l else none := by
  simp only [moreP, argsP]
  split
  · cases argsP l <;> simp
  · rfl
theorem textP_eq (k a b : Int) (l : List Bs) : textP k a b l = if hasTextF k then (match l with
    | [] => none
    | t :: r => moreP k a b t [] r) else moreP k a b [] [] l := by
  unfold textP moreP
  split
  · cases l <;> simp
  · simp
end Ds

/-- what deed.parse leaves -/
def PPost (w : World) (o : Option D) (e : Ending) (w' : World) : Prop :=
  ∃ (d : D) (A : Option Addr) (cap : Nat), e = .returned (.tuple #[.agg #[.int .i64 d.kind, .int .i64 d.a, .int .i64 d.b, .string ⟨d.text.toArray⟩, .slice A d.args.length cap], .bool o.isSome]) ∧ o.getD Ds.zeroD = d ∧ d.args.length ≤ cap ∧
    RL w' (fun k => w.heap.size ≤ k) A 0 d.args ∧ Below w.heap.size w w'

abbrev zeroD5 : Array Value := #[.int .i64 0, .int .i64 0, .int .i64 0, .string ⟨#[]⟩, .slice none 0 0]

theorem PPost.zero {w w' : World} (h : Below w.heap.size w w') : PPost w none (.returned (.tuple #[.agg #[.int .i64 0, .int .i64 0, .int .i64 0, .string ⟨#[]⟩, .slice none 0 0], .bool false])) w' :=
  ⟨Ds.zeroD, none, 0, rfl, rfl, Nat.le_refl _, by simp [Ds.zeroD, RL], h⟩

/-- the two deeds of deed.parse: the result's and its own -/
def PB (w : World) (b : Nat) (k a b' : Int) (t : Bs) (u : Value) (W : World) : Prop :=
  Blk W w.heap.size 24 zeroD5 ∧ Blk W b 24 #[.int .i64 k, .int .i64 a, .int .i64 b', .string ⟨t.toArray⟩, u] ∧ Below w.heap.size w W

theorem PB.below {w W W' : World} {b : Nat} {k a b' : Int} {t : Bs} {u : Value} (h : PB w b k a b' t u W) (hb : Below W.heap.size W W') : PB w b k a b' t u W' :=
  ⟨h.1.below hb h.1.lt, h.2.1.below hb h.2.1.lt, h.2.2.trans (hb.mono h.2.2.size)⟩
theorem PB.setA {w W : World} {b : Nat} {k a b' : Int} {t : Bs} {u : Value} (h : PB w b k a b' t u W) (hwb : w.heap.size < b) (n : Int) : PB w b k n b' t u (W.setCell ⟨b, 1, none⟩ (.int .i64 n)) :=
  ⟨h.1.far (by simp; omega) _, h.2.1.set_ 1 _, h.2.2.setCell (p := ⟨b, 1, none⟩) (by simp; omega) _⟩
theorem PB.setB {w W : World} {b : Nat} {k a b' : Int} {t : Bs} {u : Value} (h : PB w b k a b' t u W) (hwb : w.heap.size < b) (n : Int) : PB w b k a n t u (W.setCell ⟨b, 2, none⟩ (.int .i64 n)) :=
  ⟨h.1.far (by simp; omega) _, h.2.1.set_ 2 _, h.2.2.setCell (p := ⟨b, 2, none⟩) (by simp; omega) _⟩
theorem PB.setT {w W : World} {b : Nat} {k a b' : Int} {t : Bs} {u : Value} (h : PB w b k a b' t u W) (hwb : w.heap.size < b) (n : Bs) : PB w b k a b' n u (W.setCell ⟨b, 3, none⟩ (.string ⟨n.toArray⟩)) :=
  ⟨h.1.far (by simp; omega) _, h.2.1.set_ 3 _, h.2.2.setCell (p := ⟨b, 3, none⟩) (by simp; omega) _⟩

/-- and the arguments read so far -/
def PS (w : World) (b : Nat) (k a b' : Int) (t : Bs) (xs : List V) (u : Value) (W : World) : Prop :=
  ∃ cs : List Value, PB w b k a b' t u W ∧ W.ownsRow (b + 1) 34 4 u xs.length cs ∧ RC W (fun j => b < j ∧ some j ≠ u.ownBlock) xs cs

theorem PS.start {w W : World} {b : Nat} {k a b' : Int} {t : Bs} (h : PB w b k a b' t (.slice none 0 0) W) : PS w b k a b' t [] (.slice none 0 0) W :=
  ⟨[], h, World.ownsRow_nil _ _ _ _, rfl⟩
theorem PS.below {w W W' : World} {b : Nat} {k a b' : Int} {t : Bs} {xs : List V} {u : Value} (h : PS w b k a b' t xs u W) (hb : Below W.heap.size W W') : PS w b k a b' t xs u W' := by
  obtain ⟨cs, h1, h2, h3⟩ := h
  exact ⟨cs, h1.below hb, own_below h2 hb, RC.keep (fun j _ hj => hb.block j hj) h3⟩

/-- one argument more -/
theorem PS.step {w wr w9 w10 : World} {b n cap g9 cg9 cap9 : Nat} {k a b' : Int} {t : Bs} {xs : List V} {x1 : V} {A A9 : Option Addr} {cs : List Value} {o1 o2 : Obj} (hwb : w.heap.size < b) (hn : n = xs.length)
    (hP : PB w b k a b' t (.slice A n cap) wr) (hown : wr.ownsRow (b + 1) 34 4 (.slice A n cap) n cs) (hRC : RC wr (fun j => b < j ∧ some j ≠ (Value.slice A n cap).ownBlock) xs cs)
    (hv9 : RV w9 (fun j => wr.heap.size ≤ j) x1 (.int .i64 x1.kind) (.int .i64 x1.num) (.string ⟨x1.text.toArray⟩) (.slice A9 x1.args.length cap9)) (hb9 : Below wr.heap.size wr w9)
    (hown10 : w10.ownsRow (b + 1) 34 4 (.slice (some ⟨g9, 0, none⟩) (n + 1) cg9) (n + 1) (cs ++ [.int .i64 x1.kind, .int .i64 x1.num, .string ⟨x1.text.toArray⟩, .slice A9 x1.args.length cap9]))
    (hg10 : ((w9.alloc o1).alloc o2).grownBy w10 (Value.slice A n cap).ownBlock)
    (hat10 : (Value.slice A n cap).ownBlock = some g9 ∨ w9.heap.size ≤ g9) :
    PS w b k a b' t (xs ++ [x1]) (.slice (some ⟨g9, 0, none⟩) (n + 1) cg9) (w10.setCell ⟨b, 4, none⟩ (.slice (some ⟨g9, 0, none⟩) (n + 1) cg9)) := by
  have hol : ∀ j, (Value.slice A n cap).ownBlock = some j → b + 1 ≤ j ∧ j < wr.heap.size := fun j e => hown.lt j e
  have hsz9 := hb9.size
  obtain ⟨hP1, hP2, hP3⟩ := hP
  have hl2 := hP2.lt
  have hBv10 : Blk w10 b 24 #[.int .i64 k, .int .i64 a, .int .i64 b', .string ⟨t.toArray⟩, .slice A n cap] := (((hP2.below hb9 hP2.lt).alloc o1).alloc o2).grown hg10 (fun e => by have := (hol b e.symm).1; omega)
  have hBz10 : Blk w10 w.heap.size 24 zeroD5 := (((hP1.below hb9 hP1.lt).alloc o1).alloc o2).grown hg10 (fun e => by have := (hol _ e.symm).1; omega)
  have hga : wr.grownBy ((w9.alloc o1).alloc o2) none := grown_of_below (((hb9.alloc hb9.size o1).alloc (by simp; omega) o2)) none
  have hl9 := hga.size
  generalize (Value.slice A n cap).ownBlock = ob at hRC hg10 hat10 hol
  have hkeep : ∀ j, j < wr.heap.size → j ≠ b → some j ≠ ob → (w10.setCell ⟨b, 4, none⟩ (.slice (some ⟨g9, 0, none⟩) (n + 1) cg9)).heap[j]? = wr.heap[j]? := fun j h1 h3 h4 =>
    (Below.heap_setCell _ _ _ _ h3).trans ((hg10.block j (Nat.lt_of_lt_of_le h1 hga.size) h4).trans (hga.block j h1 (by simp)))
  have hkeep9 : ∀ j, j < w9.heap.size → j ≠ b → some j ≠ ob → (w10.setCell ⟨b, 4, none⟩ (.slice (some ⟨g9, 0, none⟩) (n + 1) cg9)).heap[j]? = w9.heap[j]? := fun j h1 h3 h4 =>
    (Below.heap_setCell _ _ _ _ h3).trans ((hg10.block j (by simp; omega) h4).trans ((Below.heap_alloc _ _ j (by simp; omega)).trans (Below.heap_alloc w9 _ j h1)))
  refine ⟨cs ++ [.int .i64 x1.kind, .int .i64 x1.num, .string ⟨x1.text.toArray⟩, .slice A9 x1.args.length cap9], ⟨?_, ?_, ?_⟩, ?_, ?_⟩
  · exact hBz10.far (by simp; omega) _
  · exact hBv10.set_ 4 _
  · have h1 : w.grownBy ((w9.alloc o1).alloc o2) none := grown_of_below ((hP3.trans (hb9.mono hP3.size)).alloc (Nat.le_trans hP3.size hb9.size) o1 |>.alloc (by have := hP3.size; simp; omega) o2) none
    have h2 : Below w.heap.size w w10 := (below_of_grown h1).grown hg10 h1.size (fun j e => by have := (hol j e).1; omega)
    exact h2.setCell (p := ⟨b, 4, none⟩) (by simp; omega) _
  · have : (xs ++ [x1]).length = n + 1 := by simp [hn]
    rw [this]
    exact ownsRow_setCell_below hown10 (a := ⟨b, 4, none⟩) (by simp) _
  · refine RC.snoc ?_ ?_
    · have h1 := RV.mono (lo' := fun j => wr.heap.size ≤ j ∧ j < w9.heap.size) (fun j hk h => ⟨h, hk⟩) _ hv9
      refine RV.mono (fun j hk h => ?_) _ (RV.keep (fun j h hk => hkeep9 j hk (by omega) (fun e => by have := (hol j e.symm).2; omega)) _ h1)
      refine ⟨by omega, fun e => ?_⟩
      have e' : j = g9 := by simpa [Value.ownBlock] using e
      rcases hat10 with h2 | h2
      · have := (hol g9 h2).2; omega
      · omega
    · have h1 := RC.mono (S' := fun j => (b < j ∧ some j ≠ ob) ∧ j < wr.heap.size) (fun j hk h => ⟨h, hk⟩) hRC
      refine RC.mono (fun j hk h => ?_) (RC.keep (fun j h hk => hkeep j hk (by omega) h.1.2) h1)
      refine ⟨h.1.1, fun e => ?_⟩
      have e' : j = g9 := by simpa [Value.ownBlock] using e
      rcases hat10 with h2 | h2
      · exact h.1.2 (by rw [h2, e'])
      · omega

/-- five cells of the result are written -/
theorem set5 {w W : World} {x0 x1 x2 x3 x4 : Value} (c0 c1 c2 c3 c4 : Value) (hB : Blk W w.heap.size 24 #[x0, x1, x2, x3, x4]) (hb : Below w.heap.size w W) :
    ∃ W' : World, W' = (((((W.setCell ⟨w.heap.size, 0, none⟩ c0).setCell ⟨w.heap.size, 1, none⟩ c1).setCell ⟨w.heap.size, 2, none⟩ c2).setCell ⟨w.heap.size, 3, none⟩ c3).setCell ⟨w.heap.size, 4, none⟩ c4) ∧ Blk W' w.heap.size 24 #[c0, c1, c2, c3, c4] ∧ Below w.heap.size w W' ∧
      ∀ k, k ≠ w.heap.size → W'.heap[k]? = W.heap[k]? :=
  ⟨_, rfl, ((((hB.set_ 0 c0).set_ 1 c1).set_ 2 c2).set_ 3 c3).set_ 4 c4, ((((hb.setCell (p := ⟨w.heap.size, 0, none⟩) (Nat.le_refl _) _).setCell (p := ⟨w.heap.size, 1, none⟩) (Nat.le_refl _) _).setCell (p := ⟨w.heap.size, 2, none⟩) (Nat.le_refl _) _).setCell (p := ⟨w.heap.size, 3, none⟩) (Nat.le_refl _) _).setCell (p := ⟨w.heap.size, 4, none⟩) (Nat.le_refl _) _,
    fun _ hk => (Below.heap_setCell _ _ _ _ hk).trans ((Below.heap_setCell _ _ _ _ hk).trans ((Below.heap_setCell _ _ _ _ hk).trans ((Below.heap_setCell _ _ _ _ hk).trans (Below.heap_setCell _ _ _ _ hk))))⟩

theorem RL.mono2 {w : World} {lo lo' : Nat → Prop} {A : Option Addr} (hlo : ∀ k, lo k → lo' k) : ∀ (i : Nat) (l : List V), RL w lo A i l → RL w lo' A i l
  | _, [], _ => by simp only [RL]
  | i, x :: r, h => by
    simp only [RL] at h ⊢
    obtain ⟨⟨b, off, c0, c1, c2, c3, hA, hb, h0, h1, h2, h3, hv⟩, hr⟩ := h
    exact ⟨⟨b, off, c0, c1, c2, c3, hA, hlo b hb, h0, h1, h2, h3, RV.mono (fun k _ h => hlo k h) x hv⟩, RL.mono2 hlo (i + 1) r hr⟩

/-- the end: the deed is handed back -/
theorem PS.fin {w W : World} {b : Nat} {k a b' : Int} {t : Bs} {xs : List V} {A : Option Addr} {n cap : Nat} (hwb : w.heap.size < b) (h : PS w b k a b' t xs (.slice A n cap) W) :
    ∃ W' : World, W' = (((((W.setCell ⟨w.heap.size, 0, none⟩ (.int .i64 k)).setCell ⟨w.heap.size, 1, none⟩ (.int .i64 a)).setCell ⟨w.heap.size, 2, none⟩ (.int .i64 b')).setCell ⟨w.heap.size, 3, none⟩ (.string ⟨t.toArray⟩)).setCell ⟨w.heap.size, 4, none⟩ (.slice A n cap)) ∧
      Blk W' w.heap.size 24 #[.int .i64 k, .int .i64 a, .int .i64 b', .string ⟨t.toArray⟩, .slice A n cap] ∧
      PPost w (some ⟨k, a, b', t, xs⟩) (.returned (.tuple #[.agg #[.int .i64 k, .int .i64 a, .int .i64 b', .string ⟨t.toArray⟩, .slice A n cap], .bool true])) W' := by
  obtain ⟨cs, ⟨h1, h2, h3⟩, hown, hRC⟩ := h
  have hn : n = xs.length ∧ xs.length ≤ cap := by
    obtain ⟨A', cap', e, hc⟩ := own_slice hown
    injection e with _ e2 e3
    exact ⟨e2, by omega⟩
  obtain ⟨rfl, hcap⟩ := hn
  have hRL : RL W (fun j => b < j) A 0 xs := by
    cases xs with
    | nil => simp only [RL]
    | cons x l =>
      obtain ⟨g, cap', e, hg, _, _⟩ := own_form hown (by simp)
      injection e with e1 _ _
      subst e1
      refine RC.rl (by omega) 0 (RC.mono (fun j _ h => h.1) hRC) (fun j u hu => ?_)
      have := hown.cells (g := g) rfl j u hu
      rw [add0] at this
      rw [Nat.zero_mul, Nat.zero_add]
      exact this
  obtain ⟨W', hW', hB', hb', hk'⟩ := set5 (.int .i64 k) (.int .i64 a) (.int .i64 b') (.string ⟨t.toArray⟩) (.slice A xs.length cap) h1 h3
  refine ⟨W', hW', hB', ⟨k, a, b', t, xs⟩, A, cap, rfl, rfl, hcap, ?_, hb'⟩
  have hm := RL.keep (w' := W') (fun j (h : b < j) _ => hk' j (by omega)) A 0 xs hRL
  exact RL.mono2 (fun j h => by omega) 0 xs hm
end Go.Proofs.YtbfiejgdgdlciaaDoor
