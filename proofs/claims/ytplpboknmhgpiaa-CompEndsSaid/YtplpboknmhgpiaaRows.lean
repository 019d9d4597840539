/-
  No cell of these rows narrows 'for every input' (looked for: loops, veiled, ifaces, maps, wideKeys, modest, calm, conditions, laid).
  DERIVED. THE GIVEN ROWS OF THIS SEAT. 6 by the template 'for every input the law returns true; each argument reads behind the call as it read before'; 0 by the template 'total and deterministic' (their statements: YtplpboknmhgpiaaTotals.lean).
  GIVEN WITH THE SEED: the statements are not yours to turn. If you find one false, say at which input.
  Laid BY PROGRAM, IN A SANDBOX (cutbox-rows.mjs): the forced cells as the released guide's own fill.sh prints them over the translation 1ab81e84b194adb5… (all of the seat's roots in one cut). By AI agents, Wed Nov 11 2026. No macro, syntax, notation, axiom, sorry.
-/
import Derived.Test.YtplpboknmhgpiaaChecked
import GoSem.Claim
import GoSem.ClaimJoined
import GoSem.ClaimMapViews
import Derived.JoinedTies
import Derived.KernelRfl
namespace Go.Proofs.Ytplpboknmhgpiaa
/- THE CELL 'sum', in the pinned program and in every row, IS THE sha256 OF THE DUMP (.gsa) THAT YtplpboknmhgpiaaProg.lean LOADS. Nothing in Lean hashes anything: it is a label: what it is worth is what the hold of that sum in a sandbox is worth. -/
noncomputable def Try.pinned : Pinned := { name := "ytplpboknmhgpiaa", sum := "1ab81e84b194adb528bc8bd69d56065f92aecfb089f307d6405ac11df53f15d6", checked := Try.checked }
namespace Rows
def none {H : Type} : Left H := { results := [], args := [] }

/-- 'seedlinglaw13.CompParts': WHATEVER THE INPUT: true; the input reads as it did. -/
def compPartsSpec : ChangeSpec := { name := "compParts", fn := fun _ => fun
  | [d1, d2, d3] => { results := [.lit (.bool true)], args := [d1, d2, d3] }
  | _ => none }
def compPartsRow : OpenClaim := { program := "ytplpboknmhgpiaa", sum := "1ab81e84b194adb528bc8bd69d56065f92aecfb089f307d6405ac11df53f15d6", func := "seedling/seedlinglaw13.CompParts", spec := "compParts", unfollowed := true, recurses := true, apart := false }
def CompPartsSaid : Prop := compPartsRow.holds Try.pinned (OpenSpec.ofChange compPartsSpec)

/-- ITS FALSE NEIGHBOUR: 'it returns false'. Refute it at one input. -/
def compPartsWrong : ChangeSpec := { name := "compParts", fn := fun _ => fun
  | [d1, d2, d3] => { results := [.lit (.bool false)], args := [d1, d2, d3] }
  | _ => none }
def CompPartsWrongFalsely : Prop := compPartsRow.holds Try.pinned (OpenSpec.ofChange compPartsWrong)

/-- 'seedlinglaw13.CompLeads': WHATEVER THE INPUT: true; the input reads as it did. -/
def compLeadsSpec : ChangeSpec := { name := "compLeads", fn := fun _ => fun
  | [d1, d2, d3] => { results := [.lit (.bool true)], args := [d1, d2, d3] }
  | _ => none }
def compLeadsRow : OpenClaim := { program := "ytplpboknmhgpiaa", sum := "1ab81e84b194adb528bc8bd69d56065f92aecfb089f307d6405ac11df53f15d6", func := "seedling/seedlinglaw13.CompLeads", spec := "compLeads", unfollowed := true, recurses := true, apart := false }
def CompLeadsSaid : Prop := compLeadsRow.holds Try.pinned (OpenSpec.ofChange compLeadsSpec)

/-- ITS FALSE NEIGHBOUR: 'it returns false'. Refute it at one input. -/
def compLeadsWrong : ChangeSpec := { name := "compLeads", fn := fun _ => fun
  | [d1, d2, d3] => { results := [.lit (.bool false)], args := [d1, d2, d3] }
  | _ => none }
def CompLeadsWrongFalsely : Prop := compLeadsRow.holds Try.pinned (OpenSpec.ofChange compLeadsWrong)

/-- 'seedlinglaw13.CompMore': WHATEVER THE INPUT: true; the input reads as it did. -/
def compMoreSpec : ChangeSpec := { name := "compMore", fn := fun _ => fun
  | [d1, d2, d3] => { results := [.lit (.bool true)], args := [d1, d2, d3] }
  | _ => none }
def compMoreRow : OpenClaim := { program := "ytplpboknmhgpiaa", sum := "1ab81e84b194adb528bc8bd69d56065f92aecfb089f307d6405ac11df53f15d6", func := "seedling/seedlinglaw13.CompMore", spec := "compMore", unfollowed := true, recurses := true, apart := false }
def CompMoreSaid : Prop := compMoreRow.holds Try.pinned (OpenSpec.ofChange compMoreSpec)

/-- ITS FALSE NEIGHBOUR: 'it returns false'. Refute it at one input. -/
def compMoreWrong : ChangeSpec := { name := "compMore", fn := fun _ => fun
  | [d1, d2, d3] => { results := [.lit (.bool false)], args := [d1, d2, d3] }
  | _ => none }
def CompMoreWrongFalsely : Prop := compMoreRow.holds Try.pinned (OpenSpec.ofChange compMoreWrong)

/-- 'seedlinglaw13.CompTells': WHATEVER THE INPUT: true; the input reads as it did. -/
def compTellsSpec : ChangeSpec := { name := "compTells", fn := fun _ => fun
  | [d1, d2, d3] => { results := [.lit (.bool true)], args := [d1, d2, d3] }
  | _ => none }
def compTellsRow : OpenClaim := { program := "ytplpboknmhgpiaa", sum := "1ab81e84b194adb528bc8bd69d56065f92aecfb089f307d6405ac11df53f15d6", func := "seedling/seedlinglaw13.CompTells", spec := "compTells", unfollowed := true, recurses := true, apart := false }
def CompTellsSaid : Prop := compTellsRow.holds Try.pinned (OpenSpec.ofChange compTellsSpec)

/-- ITS FALSE NEIGHBOUR: 'it returns false'. Refute it at one input. -/
def compTellsWrong : ChangeSpec := { name := "compTells", fn := fun _ => fun
  | [d1, d2, d3] => { results := [.lit (.bool false)], args := [d1, d2, d3] }
  | _ => none }
def CompTellsWrongFalsely : Prop := compTellsRow.holds Try.pinned (OpenSpec.ofChange compTellsWrong)

/-- 'seedlinglaw13.CompEnds': WHATEVER THE INPUT: true; the input reads as it did. -/
def compEndsSpec : ChangeSpec := { name := "compEnds", fn := fun _ => fun
  | [] => { results := [.lit (.bool true)], args := [] }
  | _ => none }
def compEndsRow : OpenClaim := { program := "ytplpboknmhgpiaa", sum := "1ab81e84b194adb528bc8bd69d56065f92aecfb089f307d6405ac11df53f15d6", func := "seedling/seedlinglaw13.CompEnds", spec := "compEnds", unfollowed := true, recurses := true, apart := false }
def CompEndsSaid : Prop := compEndsRow.holds Try.pinned (OpenSpec.ofChange compEndsSpec)

/-- ITS FALSE NEIGHBOUR: 'it returns false'. Refute it at one input. -/
def compEndsWrong : ChangeSpec := { name := "compEnds", fn := fun _ => fun
  | [] => { results := [.lit (.bool false)], args := [] }
  | _ => none }
def CompEndsWrongFalsely : Prop := compEndsRow.holds Try.pinned (OpenSpec.ofChange compEndsWrong)

/-- 'seedlinglaw13.CompTurn': WHATEVER THE INPUT: true; the input reads as it did. -/
def compTurnSpec : ChangeSpec := { name := "compTurn", fn := fun _ => fun
  | [d1, d2, d3] => { results := [.lit (.bool true)], args := [d1, d2, d3] }
  | _ => none }
def compTurnRow : OpenClaim := { program := "ytplpboknmhgpiaa", sum := "1ab81e84b194adb528bc8bd69d56065f92aecfb089f307d6405ac11df53f15d6", func := "seedling/seedlinglaw13.CompTurn", spec := "compTurn", unfollowed := true, recurses := true, apart := false }
def CompTurnSaid : Prop := compTurnRow.holds Try.pinned (OpenSpec.ofChange compTurnSpec)

/-- ITS FALSE NEIGHBOUR: 'it returns false'. Refute it at one input. -/
def compTurnWrong : ChangeSpec := { name := "compTurn", fn := fun _ => fun
  | [d1, d2, d3] => { results := [.lit (.bool false)], args := [d1, d2, d3] }
  | _ => none }
def CompTurnWrongFalsely : Prop := compTurnRow.holds Try.pinned (OpenSpec.ofChange compTurnWrong)

/- THE SECOND FORM. 'bulk': how many values and letters a reading holds, each counted each time it is reached (what is shared counts as often as it is met; a slice's spare places count too). A statement '..UptoSaid' is the law's where the arguments, and the package variables that the reading takes, are together of bulk at most 1048576: NARROWER than '..Said'. Prove '..Said' where nothing that the law and all that it calls make is longer than what came in: it says more and counts as full. Else prove '..UptoSaid'. A law counts once. -/
mutual
def uptoBulk {H : Type} : DataW H → Nat
  | .lit (.string bytes) => bytes.length + 1
  | .lit _ => 1
  | .nil => 1
  | .ptr d => uptoBulk d + 1
  | .slice elems spare => uptoBulkAll elems + uptoBulkAll spare + 1
  | .agg parts => uptoBulkAll parts + 1
  | .iface _ d => uptoBulk d + 1
  | .map entries => uptoBulkEntries entries + 1
  | .held _ => 1
def uptoBulkAll {H : Type} : List (DataW H) → Nat
  | [] => 0
  | d :: r => uptoBulk d + uptoBulkAll r
def uptoBulkEntries {H : Type} : List (Lit × DataW H) → Nat
  | [] => 0
  | x :: r => uptoBulkEntry x + uptoBulkEntries r
def uptoBulkEntry {H : Type} : Lit × DataW H → Nat
  | (.string bytes, d) => bytes.length + uptoBulk d + 1
  | (_, d) => uptoBulk d + 1
 end
def uptoSmall : (H : Type) → List (DataW H) → Bool := fun _ ds => decide (uptoBulkAll ds ≤ 1048576)
def OpenSpec.upto (s : _root_.Go.ChangeSpec) : _root_.Go.OpenSpec := { _root_.Go.OpenSpec.ofChange s with cond := some uptoSmall }

/-- 'seedlinglaw13.CompParts', WHERE WHAT IT READS IS OF BULK AT MOST 1048576: true; the input reads as it did. -/
def compPartsUptoRow : OpenClaim := { program := "ytplpboknmhgpiaa", sum := "1ab81e84b194adb528bc8bd69d56065f92aecfb089f307d6405ac11df53f15d6", func := "seedling/seedlinglaw13.CompParts", spec := "compParts", unfollowed := true, recurses := true, apart := false, narrowed := true }
def CompPartsUptoSaid : Prop := compPartsUptoRow.holds Try.pinned (OpenSpec.upto compPartsSpec)

/-- 'seedlinglaw13.CompLeads', WHERE WHAT IT READS IS OF BULK AT MOST 1048576: true; the input reads as it did. -/
def compLeadsUptoRow : OpenClaim := { program := "ytplpboknmhgpiaa", sum := "1ab81e84b194adb528bc8bd69d56065f92aecfb089f307d6405ac11df53f15d6", func := "seedling/seedlinglaw13.CompLeads", spec := "compLeads", unfollowed := true, recurses := true, apart := false, narrowed := true }
def CompLeadsUptoSaid : Prop := compLeadsUptoRow.holds Try.pinned (OpenSpec.upto compLeadsSpec)

/-- 'seedlinglaw13.CompMore', WHERE WHAT IT READS IS OF BULK AT MOST 1048576: true; the input reads as it did. -/
def compMoreUptoRow : OpenClaim := { program := "ytplpboknmhgpiaa", sum := "1ab81e84b194adb528bc8bd69d56065f92aecfb089f307d6405ac11df53f15d6", func := "seedling/seedlinglaw13.CompMore", spec := "compMore", unfollowed := true, recurses := true, apart := false, narrowed := true }
def CompMoreUptoSaid : Prop := compMoreUptoRow.holds Try.pinned (OpenSpec.upto compMoreSpec)

/-- 'seedlinglaw13.CompTells', WHERE WHAT IT READS IS OF BULK AT MOST 1048576: true; the input reads as it did. -/
def compTellsUptoRow : OpenClaim := { program := "ytplpboknmhgpiaa", sum := "1ab81e84b194adb528bc8bd69d56065f92aecfb089f307d6405ac11df53f15d6", func := "seedling/seedlinglaw13.CompTells", spec := "compTells", unfollowed := true, recurses := true, apart := false, narrowed := true }
def CompTellsUptoSaid : Prop := compTellsUptoRow.holds Try.pinned (OpenSpec.upto compTellsSpec)

/-- 'seedlinglaw13.CompEnds', WHERE WHAT IT READS IS OF BULK AT MOST 1048576: true; the input reads as it did. -/
def compEndsUptoRow : OpenClaim := { program := "ytplpboknmhgpiaa", sum := "1ab81e84b194adb528bc8bd69d56065f92aecfb089f307d6405ac11df53f15d6", func := "seedling/seedlinglaw13.CompEnds", spec := "compEnds", unfollowed := true, recurses := true, apart := false, narrowed := true }
def CompEndsUptoSaid : Prop := compEndsUptoRow.holds Try.pinned (OpenSpec.upto compEndsSpec)

/-- 'seedlinglaw13.CompTurn', WHERE WHAT IT READS IS OF BULK AT MOST 1048576: true; the input reads as it did. -/
def compTurnUptoRow : OpenClaim := { program := "ytplpboknmhgpiaa", sum := "1ab81e84b194adb528bc8bd69d56065f92aecfb089f307d6405ac11df53f15d6", func := "seedling/seedlinglaw13.CompTurn", spec := "compTurn", unfollowed := true, recurses := true, apart := false, narrowed := true }
def CompTurnUptoSaid : Prop := compTurnUptoRow.holds Try.pinned (OpenSpec.upto compTurnSpec)

end Rows
end Go.Proofs.Ytplpboknmhgpiaa
