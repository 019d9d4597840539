/-
  Node: what kinds want, looked up, is the one test of a node.
  Conditions: none.
-/
import Derived.Test.YtffjfkjlahdedaaSnsGBase
import Derived.Maps.Own
import Derived.Shelf.Abstract
set_option linter.unusedVariables false
set_option linter.unusedSimpArgs false
namespace Go.Proofs.Ytffjfkjlahdedaa
open Go.RowKit Go.MapKept

theorem kind_inj (a b : Int) (h : Value.int .i64 a = Value.int .i64 b) : a = b := by cases h; rfl
def shapeF (f : Nat) : Value := .func (.func f) #[] #[]
end Go.Proofs.Ytffjfkjlahdedaa
set_option linter.unusedVariables false
set_option linter.unusedSimpArgs false
namespace Go.Proofs.Ytffjfkjlahdedaa
open Go.RowKit Go.MapKept Go.Shelf

def NodePost (b : Bool) (w : World) (e : Ending) (w' : World) : Prop := e = .returned (.bool b) ∧ Chg [] w w'
end Go.Proofs.Ytffjfkjlahdedaa
