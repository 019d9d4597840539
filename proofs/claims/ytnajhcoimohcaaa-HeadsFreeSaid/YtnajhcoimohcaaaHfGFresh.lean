/-
  The kit's copies of nodes, in memory of their own, row by row.
  Conditions: the lists read as data; they are small.
-/
import Derived.Test.YtnajhcoimohcaaaHfGDup
set_option linter.unusedVariables false
set_option linter.unusedSimpArgs false
namespace Go.Proofs.Ytnajhcoimohcaaa
open Go.RowKit Go.MapKept Go.Shelf

def NewNodeF (w : World) (x : Nd) (e : Ending) (w' : World) : Prop :=
  ∃ a c, e = .returned (.agg (x.cells a x.kids.length c)) ∧ FreshInts w.heap.size w' a c x.kids ∧ Chg [] w w'

end Go.Proofs.Ytnajhcoimohcaaa
