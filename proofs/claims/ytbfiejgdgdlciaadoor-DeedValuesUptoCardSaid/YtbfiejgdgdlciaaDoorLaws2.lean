/-
  PLAIN LAWS, no program in sight: what the reader of a value leaves is not longer than what it began with, and the value has no more parts than there were letters.
-/
import Derived.Test.YtbfiejgdgdlciaaDoorLaws1
namespace Go.Proofs.YtbfiejgdgdlciaaDoor.Ds
open Go.Lib (itoa atoiAll atoiSat join)

theorem dropWhile_len (p : UInt8 → Bool) (r : Bs) : (r.dropWhile p).length ≤ r.length := (List.dropWhile_sublist _).length_le
theorem takeWhile_len (p : UInt8 → Bool) (r : Bs) : (r.takeWhile p).length ≤ r.length := (List.takeWhile_sublist _).length_le

theorem hasP1_len {c : UInt8} {r : Bs} (h : hasP [c] r = true) : 1 ≤ r.length := by
  unfold hasP at h
  have := (List.isPrefixOf_iff_prefix.1 h).length_le
  simpa using this

theorem loopF_nodes (f : Bs → Bool → V × Bs × Bool) (hf : ∀ r bad, nodes (f r bad).1 + (f r bad).2.1.length ≤ r.length + 1) : ∀ (k : Nat) (r : Bs) (bad : Bool), nodesL (loopF f k r bad).1 + (loopF f k r bad).2.1.length ≤ r.length + 1
  | 0, r, bad => by simp [loopF, nodesL]
  | k + 1, r, bad => by
    have h1 := hf r bad
    simp only [loopF]
    split
    · simp [nodesL]
    · split
      · simp only [nodesL, List.length_drop]; omega
      · split
        · rename_i h44
          have h3 := hasP1_len h44
          have h2 := loopF_nodes f hf k ((f r bad).2.1.drop 1) (f r bad).2.2
          simp only [List.length_drop] at h2
          simp only [nodesL]
          omega
        · simp only [nodesL]; omega

theorem valueF_nodes : ∀ (n : Nat) (r : Bs) (bad : Bool), nodes (valueF n r bad).1 + (valueF n r bad).2.1.length ≤ r.length + 1
  | 0, r, bad => by simp [valueF, zeroV, nodes, nodesL]; omega
  | n + 1, [], bad => by simp [valueF, zeroV, nodes, nodesL]
  | n + 1, c :: q, bad => by
    simp only [valueF]
    split
    · simp [nodes, nodesL]; omega
    split
    · have := dropWhile_len numB q
      simp [nodes, nodesL, numF]; omega
    split
    · have := dropWhile_len noQ q
      simp [nodes, nodesL]; omega
    split
    · rename_i hl
      have hd : ((c :: q).dropWhile nameB).length ≤ q.length := by
        have : nameB c = true := by unfold nameB; rw [hl]; rfl
        rw [List.dropWhile_cons, if_pos this]
        exact dropWhile_len nameB q
      generalize (c :: q).dropWhile nameB = r2 at hd
      generalize (c :: q).takeWhile nameB = s
      unfold consF
      split
      · simp [nodes, nodesL]; omega
      split
      · simp [nodes, nodesL]; omega
      split
      · rename_i h40
        have h1 := hasP1_len h40
        have h2 := loopF_nodes (valueF n) (valueF_nodes n) r2.length (r2.drop 1) bad
        simp only [List.length_drop] at h2
        simp only [nodes, List.length_cons]
        omega
      · simp [nodes, nodesL]; omega
    · have := dropWhile_len numB (c :: q)
      simp only [List.length_cons] at this
      simp [nodes, nodesL, numF]; omega

theorem valueF_len (n : Nat) (r : Bs) (bad : Bool) : (valueF n r bad).2.1.length ≤ r.length := by
  have h1 := valueF_nodes n r bad
  have h2 := nodes_pos (valueF n r bad).1
  omega
end Go.Proofs.YtbfiejgdgdlciaaDoor.Ds
