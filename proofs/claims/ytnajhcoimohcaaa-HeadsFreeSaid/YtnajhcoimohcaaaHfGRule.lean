/-
  The place of a rule's name; the rule whose body has a node: the tests of the rules.
  Conditions: none.
-/
import Derived.Test.YtnajhcoimohcaaaHfGFind
import Derived.Shelf.Abstract
set_option linter.unusedVariables false
set_option linter.unusedSimpArgs false
namespace Go.Proofs.Ytnajhcoimohcaaa
open Go.RowKit Go.MapKept Go.Shelf

theorem ruleI_idx (rs : List Rl) (s : ByteArray) : ruleI rs s = idxI rs fun r => r.name.toList == s.toList := rfl

end Go.Proofs.Ytnajhcoimohcaaa
