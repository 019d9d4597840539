/-
  A region that draws its order and only makes memory, in the round of a range over a function.
  Conditions: none.
-/
import Derived.Test.YtibgfgfmljhimaaGreatQGSeq
import Derived.Lib.QuietBelowIn
import Derived.Sort.QuietIn
import Derived.OwnWalkIn
set_option linter.unusedVariables false
set_option linter.unusedSimpArgs false
namespace Go.Proofs.YtibgfgfmljhimaaGreat
open Go.RowKit Go.MapKept Go.Shelf Go.Sort

theorem leave_none {n : Nat} {P : Program} {fn : Func} {tmps : Array Value} {R : Ending → World → Prop} {W : World} {v : Value} (hr : (results fn tmps).run P W = .ok v W) (hR : R (.returned v) W) :
    bodyPostM Fence.wide n P fn R .ret { tmps := tmps, defers := [] } W := ⟨v, hr, hR⟩
end Go.Proofs.YtibgfgfmljhimaaGreat
