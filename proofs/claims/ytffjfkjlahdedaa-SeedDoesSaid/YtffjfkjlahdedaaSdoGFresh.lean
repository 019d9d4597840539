/-
  gram.Copy: the same grammar in memory of its own.
  Conditions: the grammar reads as data; it is small.
-/
import Derived.Test.YtffjfkjlahdedaaSdoGOwn
set_option linter.unusedVariables false
set_option linter.unusedSimpArgs false
namespace Go.Proofs.Ytffjfkjlahdedaa
open Go.RowKit Go.MapKept Go.Shelf
attribute [local go_sem] Oper.semAt_some

theorem CopyX.stays (B n₀ : Nat) (ns : List Nd) (pre : List Cp) (p : Cp) : Stays B (CopyX n₀ ns pre p) :=
  (Stays.pure _).and ((Stays.row B _ _ _ _ _ _).and (Stays.pure _))

end Go.Proofs.Ytffjfkjlahdedaa
set_option linter.unusedVariables false
set_option linter.unusedSimpArgs false
namespace Go.Proofs.Ytffjfkjlahdedaa
open Go.RowKit Go.MapKept Go.Shelf

def NewNodeF (w : World) (x : Nd) (e : Ending) (w' : World) : Prop :=
  ∃ a c, e = .returned (.agg (x.cells a x.kids.length c)) ∧ FreshInts w.heap.size w' a c x.kids ∧ Chg [] w w'

end Go.Proofs.Ytffjfkjlahdedaa
