/-
  The sort of the library, at a row of one's own: the row is sorted, nothing else is touched.
  Conditions: fewer than 2^62 numbers.
-/
import Derived.Test.YtffjfkjlahdedaaSnsBase
import Derived.Sort.Grow
import Derived.Sort.Row
set_option linter.unusedVariables false
set_option linter.unusedSimpArgs false
set_option linter.unnecessarySimpa false
namespace Go.Proofs.Ytffjfkjlahdedaa
open Go.RowKit Go.MapKept Go.Sort

def sorted (zs : List Int) : List Int := zs.mergeSort fun x y => decide (x ≤ y)
theorem sorted_length (zs : List Int) : (sorted zs).length = zs.length := by simp [sorted]

theorem putCells_take (enc : Int → Value) (ds : List Int) (cur : Array Value) (h : ds.length ≤ cur.size) : (putCells enc 0 ds.toArray cur).toList.take ds.length = ds.map enc := by
  apply List.ext_getElem?
  intro i
  rw [List.getElem?_take]
  by_cases hi : i < ds.length
  · rw [if_pos hi]
    have hic : i < cur.size := by omega
    simp [putCells, hic, hi]
  · rw [if_neg hi, List.getElem?_eq_none (by simp; omega)]

/-- What a sort leaves. -/
theorem sort_row {w w' : World} {g n cap e : Nat} {zs : List Int} (h : w.ownsRow 0 e 1 (.slice (some ⟨g, 0, none⟩) n cap) n (zs.map (Value.int .i64))) (k : Nat) (os : Array Obj)
    (hw : w' = grow (putRow (Value.int .i64) (Sort.ahead w k) g 0 (sorted zs).toArray) os) :
    w'.ownsRow 0 e 1 (.slice (some ⟨g, 0, none⟩) n cap) n ((sorted zs).map (Value.int .i64)) ∧ Chg [g] w w' := by
  have hlen : zs.length = n := by have := h.1; simpa using this
  rcases h.2 with ⟨h0, _⟩ | ⟨g', cap', cur, hv, hb, hg, hn, hc, hs, ht⟩
  · cases h0
  · simp only [Value.slice.injEq, Option.some.injEq, Addr.mk.injEq] at hv
    obtain ⟨⟨rfl, _⟩, _, rfl⟩ := hv
    have hlt := lt_of_block hg
    have hput : (putRow (Value.int .i64) (Sort.ahead w k) g 0 (sorted zs).toArray).heap[g]? = some (.cells (putCells (Value.int .i64) 0 (sorted zs).toArray cur) e (0, 0)) := by
      have h1 : w.heap[g] = .cells cur e (0, 0) := by simpa [Array.getElem?_eq_getElem hlt] using hg
      show (w.heap.modify g _)[g]? = _
      rw [Array.getElem?_eq_getElem (by simpa using hlt), Array.getElem_modify_self, h1]
      rfl
    subst hw
    have hold : ∀ i, i < w.heap.size → (grow (putRow (Value.int .i64) (Sort.ahead w k) g 0 (sorted zs).toArray) os).heap[i]? = (putRow (Value.int .i64) (Sort.ahead w k) g 0 (sorted zs).toArray).heap[i]? := by
      intro i hi
      show (_ ++ os)[i]? = _
      rw [Array.getElem?_append_left (by simpa using hi)]
    refine ⟨⟨by simp [sorted_length, hlen], .inr ⟨g, cap, _, rfl, Nat.zero_le _, (hold g hlt).trans hput, hn, hc, by simp [putCells, hs], ?_⟩⟩, ⟨rfl, rfl, rfl, ?_, fun i hi hm => ?_⟩⟩
    · have := putCells_take (Value.int .i64) (sorted zs) cur (by rw [sorted_length]; omega)
      rw [sorted_length, hlen] at this
      simpa using this
    · show _ ≤ (_ ++ os).size
      simp [putRow, mapBlock, Sort.ahead]
    · rw [hold i hi]
      show (w.heap.modify g _)[i]? = _
      rw [Array.getElem?_modify, if_neg (fun e => hm (by simp [e]))]
theorem row_holds {w : World} {g n cap e : Nat} {zs : List Int} (h : w.ownsRow 0 e 1 (.slice (some ⟨g, 0, none⟩) n cap) n (zs.map (Value.int .i64))) : Holds (Value.int .i64) w g 0 zs.toArray := by
  intro j hj
  rcases h.2 with ⟨h0, _⟩ | ⟨g', cap', cur, hv, hb, hg, hn, hc, hs, ht⟩
  · cases h0
  · simp only [Value.slice.injEq, Option.some.injEq, Addr.mk.injEq] at hv
    obtain ⟨⟨rfl, _⟩, _, rfl⟩ := hv
    have hj' : j < zs.length := by simpa using hj
    refine ⟨?_, free_of_cells hg _⟩
    rw [cell_of_cells hg]
    have h1 : (zs.map (Value.int .i64))[j]? = some (.int .i64 zs[j]) := by simp [hj']
    rw [← ht, List.getElem?_take] at h1
    split at h1
    · simpa [hj'] using h1
    · cases h1
end Go.Proofs.Ytffjfkjlahdedaa
