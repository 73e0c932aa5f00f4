/-
  WHAT THE WALKS NEED OF THE PACKAGE-LEVEL VARIABLES, AND THE LIBRARY's CALLS in the words of the plain functions: Itoa, Atoi, FormatBool, HasPrefix, Join, Split of the words.
-/
import Derived.Test.YtbfiejgdgdlciaaDoorBase
import Derived.Test.YtbfiejgdgdlciaaDoorShelf
import Derived.Lib.ItoaLen
import Derived.Lib.AppendIntMem
namespace Go.Proofs.YtbfiejgdgdlciaaDoor
open Go.RowKit
open Ds (V Bs)

/-- the variables that are read -/
structure Env (w : World) : Prop where
  pow : Lib.TabIs Tryd.prog w "internal/strconv.uint64pow10" .u64 Lib.pow10Tab
  syn : ∃ te pe, w.cell? ⟨2, 0, none⟩ = some (.iface te pe)
  rng : ∃ te pe, w.cell? ⟨3, 0, none⟩ = some (.iface te pe)
  mx : ∃ m, w.cell? ⟨0, 0, none⟩ = some (.int .i64 m)
  sz : 8 ≤ w.heap.size

theorem gPow : Tryd.prog.globalNamed "internal/strconv.uint64pow10" = some 1 := by kernel_rfl

theorem Env.keep {w w' : World} (h : Env w) (hk : ∀ k, k < 8 → w'.heap[k]? = w.heap[k]?) (hs : w.heap.size ≤ w'.heap.size) : Env w' := by
  obtain ⟨h1, ⟨t2, p2, h2⟩, ⟨t3, p3, h3⟩, ⟨m, h4⟩, h5⟩ := h
  refine ⟨?_, ⟨t2, p2, ?_⟩, ⟨t3, p3, ?_⟩, ⟨m, ?_⟩, by omega⟩
  · unfold Lib.TabIs World.var? at h1 ⊢
    rw [gPow] at h1 ⊢
    simp only [Option.bind_some] at h1 ⊢
    rw [hk 1 (by decide)]
    exact h1
  · exact (World.cell?_of_block (w := w) (a := ⟨2, 0, none⟩) (hk 2 (by decide))).trans h2
  · exact (World.cell?_of_block (w := w) (a := ⟨3, 0, none⟩) (hk 3 (by decide))).trans h3
  · exact (World.cell?_of_block (w := w) (a := ⟨0, 0, none⟩) (hk 0 (by decide))).trans h4

theorem Env.heap {w w' : World} (h : Env w) (e : w'.heap = w.heap) : Env w' := h.keep (fun k _ => by rw [e]) (by rw [e]; exact Nat.le_refl _)

theorem Env.below {w w' : World} {B : Nat} (h : Env w) (hb : Below B w w') (hB : 8 ≤ B) : Env w' := h.keep (fun k hk => hb.block k (by omega)) hb.size
theorem Env.grown {w w' : World} {b : Nat} (h : Env w) (hb : w.grownBy w' (some b)) (hB : 8 ≤ b) : Env w' :=
  h.keep (fun k hk => hb.block k (by have := h.sz; omega) (fun e => by injection e; omega)) hb.size
theorem Env.alloc {w : World} (h : Env w) (o : Obj) : Env (w.alloc o) := h.below (B := w.heap.size) ((Below.refl _ _).alloc (Nat.le_refl _) o) h.sz

theorem itoa_calls (n : Int) (h0 : -9223372036854775808 ≤ n) (h1 : n ≤ 9223372036854775807) (w : World) (he : Env w) :
    Calls Tryd.prog 16 #[.int .i64 n] w fun e w' => e = .returned (.string ⟨(Lib.itoa n).toArray⟩) ∧ Below w.heap.size w w' :=
  (Tryd.strconv_Itoa n h0 h1 w he.pow).mono fun _ _ ⟨h, k, os, hw⟩ => ⟨h, hw ▸ Lib.below_grow _ w (Nat.le_refl _) k os⟩

theorem atoi_ok_calls (s : ByteArray) (hs : s.size ≤ 281474976710656) (n : Int) (h : Ds.atoiN s.data.toList = (n, false)) (w : World) :
    Calls Tryd.prog 32 #[.string s] w fun e w' => e = .returned (.tuple #[.int .i64 n, .nilIface]) ∧ Below w.heap.size w w' := by
  have h' : Lib.atoiAll s.data.toList = .ok n := by
    unfold Ds.atoiN at h
    rcases hv : Lib.atoiAll s.data.toList with v | _ | _
    · rw [hv] at h; injection h with h; rw [h]
    · rw [hv] at h; injection h with _ h; cases h
    · rw [hv] at h; injection h with _ h; cases h
  refine (Tryd.strconv_Atoi_ok s (by omega) n h' w).mono fun e w' ⟨h, hw⟩ => ⟨h, ?_⟩
  rcases hw with rfl | ⟨t, rfl⟩
  · exact Below.refl _ _
  · exact Lib.bytesWorld_below w 5 t

theorem atoi_err_calls (s : ByteArray) (hs : s.size ≤ 281474976710656) (n : Int) (h : Ds.atoiN s.data.toList = (n, true)) (w : World) (he : Env w) :
    Calls Tryd.prog 32 #[.string s] w fun e w' => ∃ N, e = .returned (.tuple #[.int .i64 n, .iface 94 (.pointer (some ⟨N, 0, none⟩))]) ∧ Below w.heap.size w w' := by
  unfold Ds.atoiN at h
  rcases hv : Lib.atoiAll s.data.toList with v | _ | _
  · rw [hv] at h; injection h with _ h; cases h
  · rw [hv] at h
    injection h with h _
    subst h
    obtain ⟨te, pe, h2⟩ := he.syn
    exact (Any.strconv_Atoi_syntax Tryd.laysC172 s hs hv _ w h2 (Or.inr ⟨te, pe, rfl⟩)).mono fun e w' ⟨N, h, _, _, hb⟩ => ⟨N, h, hb⟩
  · rw [hv] at h
    injection h with h _
    subst h
    obtain ⟨te, pe, h2⟩ := he.rng
    exact (Tryd.strconv_Atoi_range s hs hv _ w h2 (Or.inr ⟨te, pe, rfl⟩)).mono fun e w' ⟨N, h, _, _, hb⟩ => ⟨N, h, hb⟩

theorem formatBool_calls (b : Bool) (w : World) :
    Calls Tryd.prog 33 #[.bool b] w fun e w' => e = .returned (.string ⟨(Ds.boolT b).toArray⟩) ∧ w = w' :=
  (Tryd.strconv_FormatBool b w).mono fun e w' ⟨h, hw⟩ => ⟨by rw [h]; cases b <;> rfl, hw.symm⟩

theorem hasPrefix_calls (s p : ByteArray) (w : World) :
    Calls Tryd.prog 52 #[.string s, .string p] w fun e w' => e = .returned (.bool (Ds.hasP p.data.toList s.data.toList)) ∧ w = w' :=
  (Tryd.strings_HasPrefix s p w).mono fun _ _ ⟨h, hw⟩ => ⟨h, hw.symm⟩

def wordsB : ByteArray := ⟨#[115, 112, 97, 119, 110, 32, 116, 101, 108, 108, 32, 116, 117, 114, 110, 32, 116, 105, 99, 107, 32, 99, 111, 109, 101, 32, 108, 111, 115, 101, 32, 100, 111, 117, 98, 108, 101, 32, 109, 111, 118, 101, 32, 99, 111, 108, 108, 101, 99, 116, 32, 104, 111, 108, 100, 32, 102, 114, 101, 101, 32, 110, 97, 109, 101, 32, 103, 111, 115, 115, 105, 112]⟩
def wordVals : List Value := Ds.wordsL.map fun l => Value.string ⟨l.toArray⟩
theorem words_count : Lib.countB wordsB ⟨#[32]⟩ = 12 := by decide +kernel
theorem words_split : Lib.splitB ⟨#[32]⟩ 0 12 wordsB = Ds.wordsL.map fun l => (⟨l.toArray⟩ : ByteArray) := by decide +kernel

theorem split_calls (s : ByteArray) (hs : s.data.toList = wordsB.data.toList) (w : World) (he : Env w) :
    Calls Tryd.prog 14 #[.string s, .string ⟨#[32]⟩] w fun e w' => e = .returned (.slice (some ⟨w.heap.size, 0, none⟩) 13 13) ∧ w' = w.alloc (.cells wordVals.toArray 9) := by
  obtain ⟨m, hm⟩ := he.mx
  obtain rfl : s = wordsB := of_data hs
  have h := Tryd.strings_Split wordsB ⟨#[32]⟩ m w (by decide +kernel) hm (by decide +kernel)
  rw [words_count, words_split] at h
  simp only [List.map_map] at h
  exact h

theorem join_calls (bk c : Nat) (xs : List Bs) (sep : ByteArray) (w : World) (hcells : ∀ (j : Nat) x, xs[j]? = some x → w.cell? ⟨bk, j, none⟩ = some (.string ⟨x.toArray⟩)) (hbk : bk < w.heap.size)
    (hN : xs.length ≤ 1048576) (hcap : xs.length ≤ c) (hlen : (Lib.join xs sep.data.toList).length ≤ 140737488355328) :
    Calls Tryd.prog 18 #[.slice (some ⟨bk, 0, none⟩) xs.length c, .string sep] w fun e w' => e = .returned (.string ⟨(Lib.join xs sep.data.toList).toArray⟩) ∧ Below w.heap.size w w' := by
  have hm : (xs.map fun l => (⟨l.toArray⟩ : ByteArray)).map (·.data.toList) = xs := by
    rw [List.map_map]
    show xs.map (fun l => l) = xs
    exact List.map_id' xs
  have h := Tryd.strings_Join bk 0 c (xs.map fun l => (⟨l.toArray⟩ : ByteArray)) sep w (fun j x hx => by
    rw [List.getElem?_map] at hx
    cases hj : xs[j]? with
    | none => rw [hj] at hx; cases hx
    | some y =>
      rw [hj] at hx
      injection hx with hx
      subst hx
      rw [Nat.zero_add, hcells j y hj]) hbk (by rw [List.length_map]; omega) (by rw [List.length_map]; exact hcap) (by rw [hm]; exact hlen)
  rw [hm, List.length_map] at h
  exact h

end Go.Proofs.YtbfiejgdgdlciaaDoor
