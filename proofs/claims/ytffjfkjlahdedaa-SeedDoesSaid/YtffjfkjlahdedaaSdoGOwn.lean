/-
  A grammar in memory of one's own: what it is, what leaves it as it is, how it grows by a node, how a cell of it is written.
  Conditions: none.
-/
import Derived.Test.YtffjfkjlahdedaaSdoGCps
set_option linter.unusedVariables false
set_option linter.unusedSimpArgs false
namespace Go.Proofs.Ytffjfkjlahdedaa
open Go.RowKit Go.MapKept Go.Shelf

theorem keepsFrom_of_chg {B : Nat} {S : List Nat} {A A' : World} (h : Chg S A A') (hS : ∀ k ∈ S, k < B ∨ ∃ cur t m, A.heap[k]? = some (.cells cur t m)) : KeepsFrom B A A' :=
  ⟨h.size, fun k o hB hk ho => h.heap hk (fun hm => by
    rcases hS k hm with h1 | ⟨cur, t, m, h1⟩
    · omega
    · rw [hk] at h1; cases h1; cases ho)⟩
end Go.Proofs.Ytffjfkjlahdedaa
