/-
  THE GROUND OF THE WALKS over package deed: when a Go value (four cells) reads as a V, what keeps that, and the bytes' small functions.
-/
import Derived.Test.YtbfiejgdgdlciaaDoorChecked
import Derived.Test.YtbfiejgdgdlciaaDoorSpec
import Derived.WalkKit
import Derived.WalkSpells
import Derived.WalkLawsBesides
import Derived.BigQuiet
import Derived.Deep.QuietTactic
import Derived.Deep.RegionWith
import Derived.Deep.RegionHeld3
import Derived.Deep.RegionLaw
import Derived.Deep.Draws
import Derived.Deep.AppendLies
import Derived.Deep.Cut
import Derived.Deep.DeepFit
import Derived.Maps.AppendAt
import Derived.Lib.Hide
import Derived.Outline
namespace Go.Proofs.YtbfiejgdgdlciaaDoor
open Go.RowKit
open Ds (V Bs)

def Str (l : Bs) : Value := .string ⟨l.toArray⟩

mutual
/-- the four cells of an api.Value read as a V, all of whose rows lie in such blocks -/
def RV (w : World) (lo : Nat → Prop) : V → Value → Value → Value → Value → Prop
  | .mk k n t l, c0, c1, c2, c3 => c0 = .int .i64 k ∧ c1 = .int .i64 n ∧ c2 = .string ⟨t.toArray⟩ ∧ ∃ (A : Option Addr) (cap : Nat), c3 = .slice A l.length cap ∧ l.length ≤ cap ∧ RL w lo A 0 l
def RL (w : World) (lo : Nat → Prop) (A : Option Addr) : Nat → List V → Prop
  | _, [] => True
  | i, x :: r => (∃ b off c0 c1 c2 c3, A = some ⟨b, off, none⟩ ∧ lo b ∧ w.cell? ⟨b, off + i * 4, none⟩ = some c0 ∧ w.cell? ⟨b, off + i * 4 + 1, none⟩ = some c1 ∧ w.cell? ⟨b, off + i * 4 + 2, none⟩ = some c2 ∧
      w.cell? ⟨b, off + i * 4 + 3, none⟩ = some c3 ∧ RV w lo x c0 c1 c2 c3) ∧ RL w lo A (i + 1) r
end

theorem lt_of_cell {w : World} {a : Addr} {v : Value} (h : w.cell? a = some v) : a.block < w.heap.size := by
  rcases Nat.lt_or_ge a.block w.heap.size with h1 | h1
  · exact h1
  · simp [World.cell?, Array.getElem?_eq_none h1] at h

mutual
theorem RV.keep {w w' : World} {lo : Nat → Prop} (hk : ∀ k, lo k → k < w.heap.size → w'.heap[k]? = w.heap[k]?) : ∀ (x : V) {c0 c1 c2 c3 : Value}, RV w lo x c0 c1 c2 c3 → RV w' lo x c0 c1 c2 c3
  | .mk k n t l, c0, c1, c2, c3, h => by
    simp only [RV] at h ⊢
    obtain ⟨h0, h1, h2, A, cap, h3, h4, h5⟩ := h
    exact ⟨h0, h1, h2, A, cap, h3, h4, RL.keep hk A 0 l h5⟩
theorem RL.keep {w w' : World} {lo : Nat → Prop} (hk : ∀ k, lo k → k < w.heap.size → w'.heap[k]? = w.heap[k]?) (A : Option Addr) : ∀ (i : Nat) (l : List V), RL w lo A i l → RL w' lo A i l
  | _, [], _ => by simp only [RL]
  | i, x :: r, h => by
    simp only [RL] at h ⊢
    obtain ⟨⟨b, off, c0, c1, c2, c3, hA, hb, h0, h1, h2, h3, hv⟩, hr⟩ := h
    have e : w'.heap[b]? = w.heap[b]? := hk b hb (lt_of_cell (a := ⟨b, _, none⟩) h0)
    exact ⟨⟨b, off, c0, c1, c2, c3, hA, hb, (World.cell?_of_block (w := w) (a := ⟨b, _, none⟩) e).trans h0, (World.cell?_of_block (w := w) (a := ⟨b, _, none⟩) e).trans h1,
      (World.cell?_of_block (w := w) (a := ⟨b, _, none⟩) e).trans h2, (World.cell?_of_block (w := w) (a := ⟨b, _, none⟩) e).trans h3, RV.keep hk x hv⟩, RL.keep hk A (i + 1) r hr⟩
end

theorem RV.below {w w' : World} {lo : Nat → Prop} {x : V} {c0 c1 c2 c3 : Value} (h : RV w lo x c0 c1 c2 c3) (hb : Below w.heap.size w w') : RV w' lo x c0 c1 c2 c3 := RV.keep (fun k _ hk => hb.block k hk) x h
theorem RL.below {w w' : World} {lo : Nat → Prop} {A : Option Addr} {i : Nat} {l : List V} (h : RL w lo A i l) (hb : Below w.heap.size w w') : RL w' lo A i l := RL.keep (fun k _ hk => hb.block k hk) A i l h


/-- the element at a place: its four cells -/
theorem RL.get {w : World} {lo : Nat → Prop} {A : Option Addr} : ∀ {l : List V} {i j : Nat} {y : V}, RL w lo A i l → l[j]? = some y →
    ∃ b off c0 c1 c2 c3, A = some ⟨b, off, none⟩ ∧ lo b ∧ w.cell? ⟨b, off + (i + j) * 4, none⟩ = some c0 ∧ w.cell? ⟨b, off + (i + j) * 4 + 1, none⟩ = some c1 ∧ w.cell? ⟨b, off + (i + j) * 4 + 2, none⟩ = some c2 ∧
      w.cell? ⟨b, off + (i + j) * 4 + 3, none⟩ = some c3 ∧ RV w lo y c0 c1 c2 c3
  | [], _, _, _, _, h => by simp at h
  | x :: r, i, 0, y, h, hy => by
    simp only [RL] at h
    simp only [List.getElem?_cons_zero, Option.some.injEq] at hy
    subst hy
    exact h.1
  | x :: r, i, j + 1, y, h, hy => by
    simp only [RL] at h
    have := RL.get h.2 (by simpa using hy)
    rw [show i + 1 + j = i + (j + 1) by omega] at this
    exact this
/-- an element, its cells written out -/
theorem RV.form {w : World} {lo : Nat → Prop} {y : V} {c0 c1 c2 c3 : Value} (h : RV w lo y c0 c1 c2 c3) :
    ∃ (A : Option Addr) (cap : Nat), c0 = .int .i64 y.kind ∧ c1 = .int .i64 y.num ∧ c2 = .string ⟨y.text.toArray⟩ ∧ c3 = .slice A y.args.length cap ∧ y.args.length ≤ cap ∧ RL w lo A 0 y.args := by
  obtain ⟨k, n, t, l⟩ := y
  simp only [RV] at h
  obtain ⟨h0, h1, h2, A, cap, h3, h4, h5⟩ := h
  exact ⟨A, cap, h0, h1, h2, h3, h4, h5⟩
theorem RV.make {w : World} {lo : Nat → Prop} {y : V} {A : Option Addr} {cap : Nat} (h4 : y.args.length ≤ cap) (h5 : RL w lo A 0 y.args) : RV w lo y (.int .i64 y.kind) (.int .i64 y.num) (.string ⟨y.text.toArray⟩) (.slice A y.args.length cap) := by
  obtain ⟨k, n, t, l⟩ := y
  simp only [RV]
  exact ⟨rfl, rfl, rfl, A, cap, rfl, h4, h5⟩
theorem RL.at_ {w : World} {lo : Nat → Prop} {b off : Nat} {l : List V} {j : Nat} {y : V} (h : RL w lo (some ⟨b, off, none⟩) 0 l) (hy : l[j]? = some y) :
    ∃ (A : Option Addr) (cap : Nat), lo b ∧ w.cell? ⟨b, off + j * 4, none⟩ = some (.int .i64 y.kind) ∧ w.cell? ⟨b, off + j * 4 + 1, none⟩ = some (.int .i64 y.num) ∧ w.cell? ⟨b, off + j * 4 + 2, none⟩ = some (.string ⟨y.text.toArray⟩) ∧
      w.cell? ⟨b, off + j * 4 + 3, none⟩ = some (.slice A y.args.length cap) ∧ RV w lo y (.int .i64 y.kind) (.int .i64 y.num) (.string ⟨y.text.toArray⟩) (.slice A y.args.length cap) := by
  obtain ⟨b', off', e0, e1, e2, e3, hA, hlo, h0, h1, h2, h3, hv⟩ := h.get hy
  injection hA with hA
  injection hA with hA1 hA2
  subst hA1; subst hA2
  simp only [Nat.zero_add] at h0 h1 h2 h3
  obtain ⟨A, cap, rfl, rfl, rfl, rfl, h4, h5⟩ := hv.form
  exact ⟨A, cap, hlo, h0, h1, h2, h3, RV.make h4 h5⟩
/-- a list that isn't empty has an address -/
theorem RL.addr {w : World} {lo : Nat → Prop} {A : Option Addr} {x : V} {r : List V} (h : RL w lo A 0 (x :: r)) : ∃ b off, A = some ⟨b, off, none⟩ := by
  obtain ⟨b, off, _, _, _, _, hA, _⟩ := h.get (j := 0) (y := x) rfl
  exact ⟨b, off, hA⟩

theorem RV.mono {w : World} {lo lo' : Nat → Prop} (hlo : ∀ k, k < w.heap.size → lo k → lo' k) : ∀ (x : V) {c0 c1 c2 c3 : Value}, RV w lo x c0 c1 c2 c3 → RV w lo' x c0 c1 c2 c3 := fun x => V.rec
  (motive_1 := fun x => ∀ {c0 c1 c2 c3 : Value}, RV w lo x c0 c1 c2 c3 → RV w lo' x c0 c1 c2 c3) (motive_2 := fun l => ∀ (A : Option Addr) (i : Nat), RL w lo A i l → RL w lo' A i l)
  (fun k n t l ih {c0 c1 c2 c3} h => by
    simp only [RV] at h ⊢
    obtain ⟨h0, h1, h2, A, cap, h3, h4, h5⟩ := h
    exact ⟨h0, h1, h2, A, cap, h3, h4, ih A 0 h5⟩)
  (fun A i _ => by simp only [RL])
  (fun x r ihx ihr A i h => by
    simp only [RL] at h ⊢
    obtain ⟨⟨b, off, c0, c1, c2, c3, hA, hb, h0, h1, h2, h3, hv⟩, hr⟩ := h
    exact ⟨⟨b, off, c0, c1, c2, c3, hA, hlo b (lt_of_cell (a := ⟨b, _, none⟩) h0) hb, h0, h1, h2, h3, ihx hv⟩, ihr A (i + 1) hr⟩) x

theorem grown_of_below {w w' : World} (h : Below w.heap.size w w') (row : Option Nat) : w.grownBy w' row := ⟨h.os, h.tape, h.output, h.size, fun k hk _ => h.block k hk⟩
theorem below_of_grown {w w' : World} (h : w.grownBy w' none) : Below w.heap.size w w' := ⟨h.os, h.tape, h.output, h.size, fun k hk => h.block k hk (by simp)⟩
theorem own_below {w w' : World} {base : Nat} {e : TypeId} {size : Nat} {v : Value} {n : Nat} {xs : List Value} (h : w.ownsRow base e size v n xs) (hb : Below w.heap.size w w') : w'.ownsRow base e size v n xs :=
  h.kept (row := none) (grown_of_below hb none) (by cases v.ownBlock <;> simp)
theorem below_app {B : Nat} {a w w' : World} {e : TypeId} {size : Nat} {v : Value} {n : Nat} {xs : List Value} (h : Below B a w) (ho : w.ownsRow B e size v n xs) (hg : w.grownBy w' v.ownBlock) (hB : B ≤ w.heap.size) : Below B a w' :=
  h.grown hg hB (fun k hk => (ho.lt k hk).1)

theorem own_form {w : World} {base : Nat} {e : TypeId} {size : Nat} {v : Value} {n : Nat} {xs : List Value} (h : w.ownsRow base e size v n xs) (hn : 0 < n) :
    ∃ g cap, v = .slice (some ⟨g, 0, none⟩) n cap ∧ base ≤ g ∧ g < w.heap.size ∧ n ≤ cap := by
  rcases h.2 with ⟨rfl, h0⟩ | ⟨g, cap, cur, rfl, hb, hh, hc, _⟩
  · omega
  · refine ⟨g, cap, rfl, hb, ?_, hc⟩
    rcases Nat.lt_or_ge g w.heap.size with h1 | h1
    · exact h1
    · rw [Array.getElem?_eq_none h1] at hh; cases hh

/-- block g is known whole -/
def Blk (w : World) (g : Nat) (t : TypeId) (cs : Array Value) : Prop := w.heap[g]? = some (.cells cs t (0, 0))
section
variable {w w' : World} {g : Nat} {t : TypeId} {cs : Array Value}
theorem Blk.lt (h : Blk w g t cs) : g < w.heap.size := by
  rcases Nat.lt_or_ge g w.heap.size with hlt | hge
  · exact hlt
  · unfold Blk at h; rw [Array.getElem?_eq_none hge] at h; cases h
theorem Blk.cell (h : Blk w g t cs) (i : Nat) : w.cell? ⟨g, i, none⟩ = cs[i]? := cell_of_row w g i cs t (0, 0) h
theorem Blk.frozen (h : Blk w g t cs) (i : Nat) : w.frozen? ⟨g, i, none⟩ = false := by
  unfold Blk at h
  simp [World.frozen?, h]
theorem Blk.new (w : World) (t : TypeId) (cs : Array Value) : Blk (w.alloc (.cells cs t)) w.heap.size t cs := heap_alloc_new w _
theorem Blk.drew (h : Blk w g t cs) : Blk w.drew g t cs := h
theorem Blk.drewN (h : Blk w g t cs) (n : Nat) : Blk (w.drewN n) g t cs := h
theorem Blk.alloc (h : Blk w g t cs) (o : Obj) : Blk (w.alloc o) g t cs := (Below.heap_alloc w o g h.lt).trans h
theorem Blk.set_ (h : Blk w g t cs) (i : Nat) (u : Value) : Blk (w.setCell ⟨g, i, none⟩ u) g t (cs.setIfInBounds i u) := by
  unfold Blk at h ⊢
  simp [World.setCell, Array.getElem?_modify, h]
theorem Blk.far (h : Blk w g t cs) {p : Addr} (hp : g ≠ p.block) (u : Value) : Blk (w.setCell p u) g t cs := (Below.heap_setCell w p u g hp).trans h
theorem Blk.below {B : Nat} (h : Blk w g t cs) (hb : Below B w w') (hg : g < B) : Blk w' g t cs := (hb.block g hg).trans h
theorem Blk.grown {row : Option Nat} (h : Blk w g t cs) (hb : w.grownBy w' row) (hg : some g ≠ row) : Blk w' g t cs := (hb.block g h.lt hg).trans h
theorem Blk.ne_ {g' : Nat} {t' : TypeId} {cs' : Array Value} (h : Blk w g t cs) (h' : Blk w g' t' cs') (hne : t ≠ t') : g ≠ g' := by
  rintro rfl
  unfold Blk at h h'
  rw [h] at h'
  injection h' with h'
  injection h' with _ ht
  exact hne ht
theorem own_blk_ne {base : Nat} {e : TypeId} {size n : Nat} {v : Value} {xs : List Value} (h : w.ownsRow base e size v n xs) (hg : Blk w g t cs) (hne : e ≠ t) : v.ownBlock ≠ some g := by
  rcases h.2 with ⟨rfl, _⟩ | ⟨g', cap, cur, rfl, _, hh, _⟩
  · simp [Value.ownBlock]
  · intro he
    have : g' = g := by simpa [Value.ownBlock] using he
    subst this
    exact Blk.ne_ (t := e) hh hg hne rfl
end

theorem add0 (g i : Nat) : (⟨g, 0, none⟩ : Addr).add i = ⟨g, i, none⟩ := by
  unfold Addr.add
  by_cases h : i = 0 <;> simp [h]
theorem of_data {y : ByteArray} {l : Bs} (h : y.data.toList = l) : y = ⟨l.toArray⟩ := by subst h; rfl
/-- two strings joined by '+': the result behind a name -/
theorem cat (P : Program) (a b : ByteArray) (h : a.size + b.size ≤ 9223372036854775807) : ∃ y : ByteArray, y.data.toList = a.data.toList ++ b.data.toList ∧ y.size = a.size + b.size ∧ ∀ W : World, (Op.stringOp .add a b).run P W = .ok (.string y) W :=
  ⟨a ++ b, by simp [ByteArray.data_append], by simp, fun W => run_string_add_sum W a b h⟩

theorem nodes_mem {l : List V} {y : V} (h : y ∈ l) : Ds.nodes y ≤ Ds.nodesL l := by
  induction l with
  | nil => cases h
  | cons x r ih =>
    simp only [Ds.nodesL]
    cases List.mem_cons.1 h with
    | inl e => subst e; omega
    | inr e => have := ih e; omega
theorem wf_mem {l : List V} {y : V} (hl : Ds.wfL l) (h : y ∈ l) : Ds.wfV y := by
  induction l with
  | nil => cases h
  | cons x r ih =>
    simp only [Ds.wfL] at hl
    cases List.mem_cons.1 h with
    | inl e => subst e; exact hl.1
    | inr e => exact ih hl.2 e

end Go.Proofs.YtbfiejgdgdlciaaDoor
