/-
  No cell of these rows narrows 'for every input' (looked for: loops, veiled, ifaces, maps, wideKeys, modest, calm, conditions, laid).
  DERIVED. THE GIVEN ROWS OF THIS SEAT. 7 by the template 'for every input the law returns true; each argument reads behind the call as it read before'; 0 by the template 'total and deterministic' (their statements: YtibgfgfmljhimaaGreatTotals.lean).
  GIVEN WITH THE SEED: the statements are not yours to turn. If you find one false, say at which input.
  Laid BY PROGRAM, IN A SANDBOX (cutbox-rows.mjs): the forced cells as the released guide's own fill.sh prints them over the translation f602506cbe78801d… (all of the seat's roots in one cut). By AI agents, Wed Nov 11 2026. No macro, syntax, notation, axiom, sorry.
-/
import Derived.Test.YtibgfgfmljhimaaGreatChecked
import GoSem.Claim
import GoSem.ClaimJoined
import GoSem.ClaimMapViews
import Derived.JoinedTies
import Derived.KernelRfl
namespace Go.Proofs.YtibgfgfmljhimaaGreat
/- THE CELL 'sum', in the pinned program and in every row, IS THE sha256 OF THE DUMP (.gsa) THAT YtibgfgfmljhimaaGreatProg.lean LOADS. Nothing in Lean hashes anything: it is a label: what it is worth is what the hold of that sum in a sandbox is worth. -/
noncomputable def Tryz.pinned : Pinned := { name := "ytibgfgfmljhimaagreat", sum := "f602506cbe78801dac7d3c4e99b60826374abfe219bc59637eb73711627f1cab", checked := Tryz.checked }
namespace Rows
def none {H : Type} : Left H := { results := [], args := [] }

/-- 'seedlinglaw11.NullTells': WHATEVER THE INPUT: true; the input reads as it did. -/
def nullTellsSpec : ChangeSpec := { name := "nullTells", fn := fun _ => fun
  | [d1, d2, d3] => { results := [.lit (.bool true)], args := [d1, d2, d3] }
  | _ => none }
def nullTellsRow : OpenClaim := { program := "ytibgfgfmljhimaagreat", sum := "f602506cbe78801dac7d3c4e99b60826374abfe219bc59637eb73711627f1cab", func := "seedling/seedlinglaw11.NullTells", spec := "nullTells", unfollowed := true, recurses := true, apart := false }
def NullTellsSaid : Prop := nullTellsRow.holds Tryz.pinned (OpenSpec.ofChange nullTellsSpec)

/-- ITS FALSE NEIGHBOUR: 'it returns false'. Refute it at one input. -/
def nullTellsWrong : ChangeSpec := { name := "nullTells", fn := fun _ => fun
  | [d1, d2, d3] => { results := [.lit (.bool false)], args := [d1, d2, d3] }
  | _ => none }
def NullTellsWrongFalsely : Prop := nullTellsRow.holds Tryz.pinned (OpenSpec.ofChange nullTellsWrong)

/-- 'seedlinglaw11.NullEnds': WHATEVER THE INPUT: true; the input reads as it did. -/
def nullEndsSpec : ChangeSpec := { name := "nullEnds", fn := fun _ => fun
  | [] => { results := [.lit (.bool true)], args := [] }
  | _ => none }
def nullEndsRow : OpenClaim := { program := "ytibgfgfmljhimaagreat", sum := "f602506cbe78801dac7d3c4e99b60826374abfe219bc59637eb73711627f1cab", func := "seedling/seedlinglaw11.NullEnds", spec := "nullEnds", unfollowed := true, recurses := true, apart := false }
def NullEndsSaid : Prop := nullEndsRow.holds Tryz.pinned (OpenSpec.ofChange nullEndsSpec)

/-- ITS FALSE NEIGHBOUR: 'it returns false'. Refute it at one input. -/
def nullEndsWrong : ChangeSpec := { name := "nullEnds", fn := fun _ => fun
  | [] => { results := [.lit (.bool false)], args := [] }
  | _ => none }
def NullEndsWrongFalsely : Prop := nullEndsRow.holds Tryz.pinned (OpenSpec.ofChange nullEndsWrong)

/-- 'seedlinglaw12.LeftGoes': WHATEVER THE INPUT: true; the input reads as it did. -/
def leftGoesSpec : ChangeSpec := { name := "leftGoes", fn := fun _ => fun
  | [d1, d2, d3] => { results := [.lit (.bool true)], args := [d1, d2, d3] }
  | _ => none }
def leftGoesRow : OpenClaim := { program := "ytibgfgfmljhimaagreat", sum := "f602506cbe78801dac7d3c4e99b60826374abfe219bc59637eb73711627f1cab", func := "seedling/seedlinglaw12.LeftGoes", spec := "leftGoes", unfollowed := true, recurses := true, apart := false }
def LeftGoesSaid : Prop := leftGoesRow.holds Tryz.pinned (OpenSpec.ofChange leftGoesSpec)

/-- ITS FALSE NEIGHBOUR: 'it returns false'. Refute it at one input. -/
def leftGoesWrong : ChangeSpec := { name := "leftGoes", fn := fun _ => fun
  | [d1, d2, d3] => { results := [.lit (.bool false)], args := [d1, d2, d3] }
  | _ => none }
def LeftGoesWrongFalsely : Prop := leftGoesRow.holds Tryz.pinned (OpenSpec.ofChange leftGoesWrong)

/-- 'seedlinglaw12.LeftTells': WHATEVER THE INPUT: true; the input reads as it did. -/
def leftTellsSpec : ChangeSpec := { name := "leftTells", fn := fun _ => fun
  | [d1, d2] => { results := [.lit (.bool true)], args := [d1, d2] }
  | _ => none }
def leftTellsRow : OpenClaim := { program := "ytibgfgfmljhimaagreat", sum := "f602506cbe78801dac7d3c4e99b60826374abfe219bc59637eb73711627f1cab", func := "seedling/seedlinglaw12.LeftTells", spec := "leftTells", unfollowed := true, recurses := true, apart := false }
def LeftTellsSaid : Prop := leftTellsRow.holds Tryz.pinned (OpenSpec.ofChange leftTellsSpec)

/-- ITS FALSE NEIGHBOUR: 'it returns false'. Refute it at one input. -/
def leftTellsWrong : ChangeSpec := { name := "leftTells", fn := fun _ => fun
  | [d1, d2] => { results := [.lit (.bool false)], args := [d1, d2] }
  | _ => none }
def LeftTellsWrongFalsely : Prop := leftTellsRow.holds Tryz.pinned (OpenSpec.ofChange leftTellsWrong)

/-- 'seedlinglaw12.LeftEnds': WHATEVER THE INPUT: true; the input reads as it did. -/
def leftEndsSpec : ChangeSpec := { name := "leftEnds", fn := fun _ => fun
  | [] => { results := [.lit (.bool true)], args := [] }
  | _ => none }
def leftEndsRow : OpenClaim := { program := "ytibgfgfmljhimaagreat", sum := "f602506cbe78801dac7d3c4e99b60826374abfe219bc59637eb73711627f1cab", func := "seedling/seedlinglaw12.LeftEnds", spec := "leftEnds", unfollowed := true, recurses := true, apart := false }
def LeftEndsSaid : Prop := leftEndsRow.holds Tryz.pinned (OpenSpec.ofChange leftEndsSpec)

/-- ITS FALSE NEIGHBOUR: 'it returns false'. Refute it at one input. -/
def leftEndsWrong : ChangeSpec := { name := "leftEnds", fn := fun _ => fun
  | [] => { results := [.lit (.bool false)], args := [] }
  | _ => none }
def LeftEndsWrongFalsely : Prop := leftEndsRow.holds Tryz.pinned (OpenSpec.ofChange leftEndsWrong)

/-- 'seedlinglaw15.WellTells': WHATEVER THE INPUT: true; the input reads as it did. -/
def wellTellsSpec : ChangeSpec := { name := "wellTells", fn := fun _ => fun
  | [d1, d2] => { results := [.lit (.bool true)], args := [d1, d2] }
  | _ => none }
def wellTellsRow : OpenClaim := { program := "ytibgfgfmljhimaagreat", sum := "f602506cbe78801dac7d3c4e99b60826374abfe219bc59637eb73711627f1cab", func := "seedling/seedlinglaw15.WellTells", spec := "wellTells", unfollowed := true, recurses := true, apart := false }
def WellTellsSaid : Prop := wellTellsRow.holds Tryz.pinned (OpenSpec.ofChange wellTellsSpec)

/-- ITS FALSE NEIGHBOUR: 'it returns false'. Refute it at one input. -/
def wellTellsWrong : ChangeSpec := { name := "wellTells", fn := fun _ => fun
  | [d1, d2] => { results := [.lit (.bool false)], args := [d1, d2] }
  | _ => none }
def WellTellsWrongFalsely : Prop := wellTellsRow.holds Tryz.pinned (OpenSpec.ofChange wellTellsWrong)

/-- 'seedlinglaw15.WellEnds': WHATEVER THE INPUT: true; the input reads as it did. -/
def wellEndsSpec : ChangeSpec := { name := "wellEnds", fn := fun _ => fun
  | [] => { results := [.lit (.bool true)], args := [] }
  | _ => none }
def wellEndsRow : OpenClaim := { program := "ytibgfgfmljhimaagreat", sum := "f602506cbe78801dac7d3c4e99b60826374abfe219bc59637eb73711627f1cab", func := "seedling/seedlinglaw15.WellEnds", spec := "wellEnds", unfollowed := true, recurses := true, apart := false }
def WellEndsSaid : Prop := wellEndsRow.holds Tryz.pinned (OpenSpec.ofChange wellEndsSpec)

/-- ITS FALSE NEIGHBOUR: 'it returns false'. Refute it at one input. -/
def wellEndsWrong : ChangeSpec := { name := "wellEnds", fn := fun _ => fun
  | [] => { results := [.lit (.bool false)], args := [] }
  | _ => none }
def WellEndsWrongFalsely : Prop := wellEndsRow.holds Tryz.pinned (OpenSpec.ofChange wellEndsWrong)

/- THE SECOND FORM. 'bulk': how many values and letters a reading holds, each counted each time it is reached (what is shared counts as often as it is met; a slice's spare places count too). A statement '..UptoSaid' is the law's where the arguments, and the package variables that the reading takes, are together of bulk at most 1048576: NARROWER than '..Said'. Prove '..Said' where nothing that the law and all that it calls make is longer than what came in: it says more and counts as full. Else prove '..UptoSaid'. A law counts once. -/
mutual
def uptoBulk {H : Type} : DataW H → Nat
  | .lit (.string bytes) => bytes.length + 1
  | .lit _ => 1
  | .nil => 1
  | .ptr d => uptoBulk d + 1
  | .slice elems spare => uptoBulkAll elems + uptoBulkAll spare + 1
  | .agg parts => uptoBulkAll parts + 1
  | .iface _ d => uptoBulk d + 1
  | .map entries => uptoBulkEntries entries + 1
  | .held _ => 1
def uptoBulkAll {H : Type} : List (DataW H) → Nat
  | [] => 0
  | d :: r => uptoBulk d + uptoBulkAll r
def uptoBulkEntries {H : Type} : List (Lit × DataW H) → Nat
  | [] => 0
  | x :: r => uptoBulkEntry x + uptoBulkEntries r
def uptoBulkEntry {H : Type} : Lit × DataW H → Nat
  | (.string bytes, d) => bytes.length + uptoBulk d + 1
  | (_, d) => uptoBulk d + 1
 end
def uptoSmall : (H : Type) → List (DataW H) → Bool := fun _ ds => decide (uptoBulkAll ds ≤ 1048576)
def OpenSpec.upto (s : _root_.Go.ChangeSpec) : _root_.Go.OpenSpec := { _root_.Go.OpenSpec.ofChange s with cond := some uptoSmall }

/-- 'seedlinglaw11.NullTells', WHERE WHAT IT READS IS OF BULK AT MOST 1048576: true; the input reads as it did. -/
def nullTellsUptoRow : OpenClaim := { program := "ytibgfgfmljhimaagreat", sum := "f602506cbe78801dac7d3c4e99b60826374abfe219bc59637eb73711627f1cab", func := "seedling/seedlinglaw11.NullTells", spec := "nullTells", unfollowed := true, recurses := true, apart := false, narrowed := true }
def NullTellsUptoSaid : Prop := nullTellsUptoRow.holds Tryz.pinned (OpenSpec.upto nullTellsSpec)

/-- 'seedlinglaw11.NullEnds', WHERE WHAT IT READS IS OF BULK AT MOST 1048576: true; the input reads as it did. -/
def nullEndsUptoRow : OpenClaim := { program := "ytibgfgfmljhimaagreat", sum := "f602506cbe78801dac7d3c4e99b60826374abfe219bc59637eb73711627f1cab", func := "seedling/seedlinglaw11.NullEnds", spec := "nullEnds", unfollowed := true, recurses := true, apart := false, narrowed := true }
def NullEndsUptoSaid : Prop := nullEndsUptoRow.holds Tryz.pinned (OpenSpec.upto nullEndsSpec)

/-- 'seedlinglaw12.LeftGoes', WHERE WHAT IT READS IS OF BULK AT MOST 1048576: true; the input reads as it did. -/
def leftGoesUptoRow : OpenClaim := { program := "ytibgfgfmljhimaagreat", sum := "f602506cbe78801dac7d3c4e99b60826374abfe219bc59637eb73711627f1cab", func := "seedling/seedlinglaw12.LeftGoes", spec := "leftGoes", unfollowed := true, recurses := true, apart := false, narrowed := true }
def LeftGoesUptoSaid : Prop := leftGoesUptoRow.holds Tryz.pinned (OpenSpec.upto leftGoesSpec)

/-- 'seedlinglaw12.LeftTells', WHERE WHAT IT READS IS OF BULK AT MOST 1048576: true; the input reads as it did. -/
def leftTellsUptoRow : OpenClaim := { program := "ytibgfgfmljhimaagreat", sum := "f602506cbe78801dac7d3c4e99b60826374abfe219bc59637eb73711627f1cab", func := "seedling/seedlinglaw12.LeftTells", spec := "leftTells", unfollowed := true, recurses := true, apart := false, narrowed := true }
def LeftTellsUptoSaid : Prop := leftTellsUptoRow.holds Tryz.pinned (OpenSpec.upto leftTellsSpec)

/-- 'seedlinglaw12.LeftEnds', WHERE WHAT IT READS IS OF BULK AT MOST 1048576: true; the input reads as it did. -/
def leftEndsUptoRow : OpenClaim := { program := "ytibgfgfmljhimaagreat", sum := "f602506cbe78801dac7d3c4e99b60826374abfe219bc59637eb73711627f1cab", func := "seedling/seedlinglaw12.LeftEnds", spec := "leftEnds", unfollowed := true, recurses := true, apart := false, narrowed := true }
def LeftEndsUptoSaid : Prop := leftEndsUptoRow.holds Tryz.pinned (OpenSpec.upto leftEndsSpec)

/-- 'seedlinglaw15.WellTells', WHERE WHAT IT READS IS OF BULK AT MOST 1048576: true; the input reads as it did. -/
def wellTellsUptoRow : OpenClaim := { program := "ytibgfgfmljhimaagreat", sum := "f602506cbe78801dac7d3c4e99b60826374abfe219bc59637eb73711627f1cab", func := "seedling/seedlinglaw15.WellTells", spec := "wellTells", unfollowed := true, recurses := true, apart := false, narrowed := true }
def WellTellsUptoSaid : Prop := wellTellsUptoRow.holds Tryz.pinned (OpenSpec.upto wellTellsSpec)

/-- 'seedlinglaw15.WellEnds', WHERE WHAT IT READS IS OF BULK AT MOST 1048576: true; the input reads as it did. -/
def wellEndsUptoRow : OpenClaim := { program := "ytibgfgfmljhimaagreat", sum := "f602506cbe78801dac7d3c4e99b60826374abfe219bc59637eb73711627f1cab", func := "seedling/seedlinglaw15.WellEnds", spec := "wellEnds", unfollowed := true, recurses := true, apart := false, narrowed := true }
def WellEndsUptoSaid : Prop := wellEndsUptoRow.holds Tryz.pinned (OpenSpec.upto wellEndsSpec)

end Rows
end Go.Proofs.YtibgfgfmljhimaaGreat
