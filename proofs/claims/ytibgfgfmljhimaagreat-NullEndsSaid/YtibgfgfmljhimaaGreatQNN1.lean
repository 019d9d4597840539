/-
  Layer 11: how many there are; what a node's Kind says by its kids, as the law asks it.
  Conditions: the grammar reads as data.
-/
import Derived.Test.YtibgfgfmljhimaaGreatQNuE
import Derived.Test.YtibgfgfmljhimaaGreatQGAft
set_option linter.unusedVariables false
set_option linter.unusedSimpArgs false
namespace Go.Proofs.YtibgfgfmljhimaaGreat
open Go.RowKit Go.MapKept Go.Shelf

/-! ### What a Kind says -/
theorem right_kind {g : Gr} (h : rightB g = true) {n : Nat} (hn : n < g.nodes.length) : 1 ≤ g.nodes[n].k ∧ g.nodes[n].k ≤ 12 := by
  have h1 := right_node h hn
  unfold nodeB nodeN at h1
  repeat' split at h1
  all_goals first | omega | cases h1
end Go.Proofs.YtibgfgfmljhimaaGreat
