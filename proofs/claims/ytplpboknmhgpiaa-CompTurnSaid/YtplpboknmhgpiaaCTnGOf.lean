/-
  The table of a row of nodes: the walk.
  Conditions: as many nodes as a slice can have; at most 2^40.
-/
import Derived.Test.YtplpboknmhgpiaaCTnGBase
set_option linter.unusedVariables false
set_option linter.unusedSimpArgs false
namespace Go.Proofs.Ytplpboknmhgpiaa
open Go.RowKit Go.MapKept

/-- Zeros ahead, then what has been told. -/
def zerosThen (n : Nat) (l : List Int) : List Int := List.replicate n 0 ++ l
def rowOf (n : Nat) (zs : List Int) : Obj := .cells (zs.map (Value.int .i64)).toArray 3 (0, 0)

theorem run_zeros (n : Nat) (hn : n ≤ 1099511627776) (w : World) : (Instr.makeSlice 26 (.int .i64 n) (.int .i64 n)).run Try.prog w = .ok (.slice (some ⟨w.heap.size, 0, none⟩) n n) (w.alloc (rowOf n (List.replicate n 0))) := by
  obtain ⟨i0, hi, hz0, hz1, hz2⟩ := info_parts Try.infoInt
  have h1 := run_make (P := Try.prog) w 26 3 i0 (.int .i64 0) Try.underlying26 hi hz0 .i64 .i64 n n (by omega) (by omega) (by rw [hz2]; omega) (by omega)
  rw [h1]
  simp only [Int.toNat_natCast, hz1, rowOf]
  have : madeCells (Value.int .i64 0).cells (n * 1) = (List.map (Value.int .i64) (List.replicate n 0)).toArray := by
    apply Array.ext
    · simp [madeCells]
    · intro i h1 h2
      simp [madeCells, Value.cells, Nat.mod_one]
  rw [this]

/-- Sizes, heights as numbers, zeros ahead. -/
def sizesL (j : Nat) (t : List (Nat × Nat)) : List Int := List.replicate j 0 ++ t.map fun p => (p.1 : Int)
def heightsL (j : Nat) (t : List (Nat × Nat)) : List Int := List.replicate j 0 ++ t.map fun p => (p.2 : Int)
theorem row_cell {w : World} {b m i : Nat} {zs : List Int} {x : Int} (h : w.heap[b]? = some (rowOf m zs)) (hx : zs[i]? = some x) : w.cell? ⟨b, i, none⟩ = some (.int .i64 x) := by
  rw [cell_of_cells h]
  simp [hx]
theorem row_free {w : World} {b m : Nat} {zs : List Int} (h : w.heap[b]? = some (rowOf m zs)) (i : Nat) : w.frozen? ⟨b, i, none⟩ = false := free_of_cells h i
theorem row_set {w : World} {b m i : Nat} {zs : List Int} (x : Int) (h : w.heap[b]? = some (rowOf m zs)) : (w.setCell ⟨b, i, none⟩ (.int .i64 x)).heap[b]? = some (rowOf m (zs.set i x)) := by
  rw [heap_setCell_same h]
  simp [rowOf, List.map_set]
theorem zeros_set (j : Nat) (l : List Int) (x : Int) : (List.replicate (j + 1) 0 ++ l).set j x = List.replicate j 0 ++ x :: l := by
  rw [List.replicate_succ', List.append_assoc, List.set_append_right _ _ (by simp)]
  simp
theorem heap_set_ne {w : World} {b c i : Nat} {u : Value} {o : Obj} (h : w.heap[b]? = some o) (hn : b ≠ c) : (w.setCell ⟨c, i, none⟩ u).heap[b]? = some o := (Below.heap_setCell _ _ _ _ (fun e => hn (by simpa using e))).trans h
theorem row_ints {w : World} {b m : Nat} {zs : List Int} (h : w.heap[b]? = some (rowOf m zs)) : Ints w (some ⟨b, 0, none⟩) zs := fun i hi => ⟨b, 0, rfl, by rw [Nat.zero_add]; exact row_cell h (by simp [hi])⟩
def TreeInts (w : World) (a1 : Option Addr) (n1 : Nat) (a2 : Option Addr) (n2 : Nat) (t : List (Nat × Nat)) : Prop :=
  n1 = t.length ∧ n2 = t.length ∧ Ints w a1 (t.map fun p => (p.1 : Int)) ∧ Ints w a2 (t.map fun p => (p.2 : Int))
theorem TreeInts.keep {w w' : World} {a1 a2 : Option Addr} {n1 n2 : Nat} {t : List (Nat × Nat)} (h : TreeInts w a1 n1 a2 n2 t) (k : Kp w w') : TreeInts w' a1 n1 a2 n2 t := ⟨h.1, h.2.1, h.2.2.1.keep k, h.2.2.2.keep k⟩
def OfPost (ns : List Nd) (w : World) (e : Ending) (w' : World) : Prop :=
  ∃ a1 n1 c1 a2 n2 c2, e = .returned (.tuple #[.agg #[.slice a1 n1 c1, .slice a2 n2 c2], .bool (tab ns).isSome]) ∧ Chg [] w w' ∧ (∀ t, tab ns = some t → TreeInts w' a1 n1 a2 n2 t)
theorem three_blocks (w : World) (A B C : Obj) : (((w.alloc A).alloc B).alloc C).drew.heap[w.heap.size]? = some A ∧ (((w.alloc A).alloc B).alloc C).drew.heap[w.heap.size + 1]? = some B ∧ (((w.alloc A).alloc B).alloc C).drew.heap[w.heap.size + 1 + 1]? = some C := by
  have h1 := heap_alloc_same (w.alloc A) B
  have h2 := heap_alloc_same ((w.alloc A).alloc B) C
  simp only [World.size_alloc] at h1 h2
  exact ⟨heap_alloc_lt (heap_alloc_lt (heap_alloc_same w A) B) C, heap_alloc_lt h1 C, h2⟩
theorem sizesL_zero (t : List (Nat × Nat)) : sizesL 0 t = t.map fun p => (p.1 : Int) := by simp [sizesL]
theorem heightsL_zero (t : List (Nat × Nat)) : heightsL 0 t = t.map fun p => (p.2 : Int) := by simp [heightsL]

end Go.Proofs.Ytplpboknmhgpiaa
