/-
  Right, Size, Height, Owner: the walks.
  Conditions: the grammar reads as data (GramAt); the numbers are int64s.
-/
import Derived.Test.YtffjfkjlahdedaaSnsGWhole
set_option linter.unusedVariables false
set_option linter.unusedSimpArgs false
namespace Go.Proofs.Ytffjfkjlahdedaa
open Go.RowKit Go.MapKept Go.Shelf

theorem size_none {g : Gr} (h : wholeT g = none) (n : Int) : sizeG g n = 0 ∧ heightG g n = 0 := by unfold sizeG heightG; rw [h]; simp
theorem size_out {g : Gr} {n : Int} (h : ¬ (0 ≤ n ∧ n < g.nodes.length)) : sizeG g n = 0 ∧ heightG g n = 0 := by
  unfold sizeG heightG
  cases wholeT g with
  | none => simp
  | some t => simp only [if_neg h]; simp
theorem size_in {g : Gr} {t : List (Nat × Nat)} {n z h : Nat} (ht : wholeT g = some t) (hn : n < g.nodes.length) (hz : t[n]? = some (z, h)) : sizeG g n = z ∧ heightG g n = h := by
  unfold sizeG heightG
  rw [ht]
  simp only []
  rw [if_pos ⟨by omega, by omega⟩, if_pos ⟨by omega, by omega⟩]
  simp [hz]

theorem owner_idx (rs : List Rl) (n : Int) : idxI rs (fun r => decide (n < r.body)) = if ownerN rs n < rs.length then (ownerN rs n : Int) else -1 := rfl
theorem owner_len (rs : List Rl) (n : Int) : ownerN rs n ≤ rs.length := List.findIdx_le_length

end Go.Proofs.Ytffjfkjlahdedaa
