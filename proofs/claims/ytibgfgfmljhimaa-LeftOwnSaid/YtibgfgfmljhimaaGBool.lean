/-
  Rows of truths; which nodes were told.
  Conditions: none.
-/
import Derived.Test.YtibgfgfmljhimaaNuE
set_option linter.unusedVariables false
set_option linter.unusedSimpArgs false
namespace Go.Proofs.Ytibgfgfmljhimaa
open Go.RowKit Go.MapKept Go.Shelf

/-! ### Rows of truths -/
def rowB (bs : List Bool) : Obj := .cells (bs.map Value.bool).toArray 4 (0, 0)
theorem Try.infoBool : (Try.prog.info? 4).map (fun i => (i.zero, i.size, i.bytes)) = some (some (.bool false), 1, 1) := by kernel_rfl
theorem run_falses (n : Nat) (hn : n ≤ 1099511627776) (w : World) : (Instr.makeSlice 56 (.int .i64 n) (.int .i64 n)).run Try.prog w = .ok (.slice (some ⟨w.heap.size, 0, none⟩) n n) (w.alloc (rowB (List.replicate n false))) := by
  obtain ⟨i0, hi, hz0, hz1, hz2⟩ := info_parts Try.infoBool
  have h1 := run_make (P := Try.prog) w 56 4 i0 (.bool false) Try.underlying56 hi hz0 .i64 .i64 n n (by omega) (by omega) (by rw [hz2]; omega) (by omega)
  rw [h1]
  simp only [Int.toNat_natCast, hz1, rowB]
  have : madeCells (Value.bool false).cells (n * 1) = (List.map Value.bool (List.replicate n false)).toArray := by
    apply Array.ext
    · simp [madeCells]
    · intro i h1 h2
      simp [madeCells, Value.cells, Nat.mod_one]
  rw [this]
theorem rowB_cell {w : World} {b i : Nat} {bs : List Bool} {x : Bool} (h : w.heap[b]? = some (rowB bs)) (hx : bs[i]? = some x) : w.cell? ⟨b, i, none⟩ = some (.bool x) := by
  rw [cell_of_cells h]
  simp [hx]
theorem rowB_free {w : World} {b : Nat} {bs : List Bool} (h : w.heap[b]? = some (rowB bs)) (i : Nat) : w.frozen? ⟨b, i, none⟩ = false := free_of_cells h i
theorem rowB_set {w : World} {b i : Nat} {bs : List Bool} (x : Bool) (h : w.heap[b]? = some (rowB bs)) : (w.setCell ⟨b, i, none⟩ (.bool x)).heap[b]? = some (rowB (bs.set i x)) := by
  rw [heap_setCell_same h]
  simp [rowB, List.map_set]

/-! ### Which are told -/
/-- What the first k of the told nodes say. -/
def toldAt (g : Gr) (k : Nat) : List Bool := (List.range g.nodes.length).map fun (j : Nat) => decide ((j : Int) ∈ (nodesN g).take k)
theorem toldAt_len (g : Gr) (k : Nat) : (toldAt g k).length = g.nodes.length := by simp [toldAt]
theorem toldAt_zero (g : Gr) : toldAt g 0 = List.replicate g.nodes.length false := by
  apply List.ext_getElem
  · simp [toldAt]
  · intro j h1 h2; simp [toldAt]
theorem nodesN_at {g : Gr} {k : Nat} {z : Int} (h : (nodesN g)[k]? = some z) : ∃ q : Nat, z = q ∧ q < g.nodes.length := by
  have h1 := List.mem_of_getElem? h
  unfold nodesN at h1
  split at h1
  · simp only [pickL, List.mem_map, List.mem_filter, List.mem_range] at h1
    obtain ⟨q, ⟨h2, _⟩, rfl⟩ := h1
    exact ⟨q, rfl, h2⟩
  · cases h1
theorem toldAt_succ {g : Gr} {k q : Nat} (h : (nodesN g)[k]? = some (q : Int)) : toldAt g (k + 1) = (toldAt g k).set q true := by
  apply List.ext_getElem
  · simp [toldAt]
  · intro i h1 h2
    rw [List.getElem_set]
    simp only [toldAt, List.getElem_map, List.getElem_range, List.take_add_one, h, Option.toList_some, List.mem_append, List.mem_singleton]
    by_cases hq : q = i
    · subst hq
      rw [if_pos rfl]; simp
    · rw [if_neg hq]
      have : ¬ ((i : Int) = (q : Int)) := by omega
      simp [this]
end Go.Proofs.Ytibgfgfmljhimaa
