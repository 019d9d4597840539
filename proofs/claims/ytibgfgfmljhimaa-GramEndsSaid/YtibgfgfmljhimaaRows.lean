/-
  No cell of these rows narrows 'for every input' (looked for: loops, veiled, ifaces, maps, wideKeys, modest, calm, conditions, laid).
  DERIVED. THE GIVEN ROWS OF THIS SEAT. 15 by the template 'for every input the law returns true; each argument reads behind the call as it read before'; 0 by the template 'total and deterministic' (their statements: YtibgfgfmljhimaaTotals.lean).
  GIVEN WITH THE SEED: the statements are not yours to turn. If you find one false, say at which input.
  Laid BY PROGRAM, IN A SANDBOX (cutbox-rows.mjs): the forced cells as the released guide's own fill.sh prints them over the translation 02c954efa9e96522… (all of the seat's roots in one cut). By AI agents, Wed Nov 11 2026. No macro, syntax, notation, axiom, sorry.
-/
import Derived.Test.YtibgfgfmljhimaaChecked
import GoSem.Claim
import GoSem.ClaimJoined
import GoSem.ClaimMapViews
import Derived.JoinedTies
import Derived.KernelRfl
namespace Go.Proofs.Ytibgfgfmljhimaa
/- THE CELL 'sum', in the pinned program and in every row, IS THE sha256 OF THE DUMP (.gsa) THAT YtibgfgfmljhimaaProg.lean LOADS. Nothing in Lean hashes anything: it is a label: what it is worth is what the hold of that sum in a sandbox is worth. -/
noncomputable def Try.pinned : Pinned := { name := "ytibgfgfmljhimaa", sum := "02c954efa9e96522ffd01ef364d28590d10cc5b1dc160efd17e0165434bca849", checked := Try.checked }
namespace Rows
def none {H : Type} : Left H := { results := [], args := [] }

/-- 'seedlinglaw06.GramTells': WHATEVER THE INPUT: true; the input reads as it did. -/
def gramTellsSpec : ChangeSpec := { name := "gramTells", fn := fun _ => fun
  | [d1, d2, d3, d4, d5] => { results := [.lit (.bool true)], args := [d1, d2, d3, d4, d5] }
  | _ => none }
def gramTellsRow : OpenClaim := { program := "ytibgfgfmljhimaa", sum := "02c954efa9e96522ffd01ef364d28590d10cc5b1dc160efd17e0165434bca849", func := "seedling/seedlinglaw06.GramTells", spec := "gramTells", unfollowed := true, recurses := true, apart := false }
def GramTellsSaid : Prop := gramTellsRow.holds Try.pinned (OpenSpec.ofChange gramTellsSpec)

/-- ITS FALSE NEIGHBOUR: 'it returns false'. Refute it at one input. -/
def gramTellsWrong : ChangeSpec := { name := "gramTells", fn := fun _ => fun
  | [d1, d2, d3, d4, d5] => { results := [.lit (.bool false)], args := [d1, d2, d3, d4, d5] }
  | _ => none }
def GramTellsWrongFalsely : Prop := gramTellsRow.holds Try.pinned (OpenSpec.ofChange gramTellsWrong)

/-- 'seedlinglaw06.GramTree': WHATEVER THE INPUT: true; the input reads as it did. -/
def gramTreeSpec : ChangeSpec := { name := "gramTree", fn := fun _ => fun
  | [d] => { results := [.lit (.bool true)], args := [d] }
  | _ => none }
def gramTreeRow : OpenClaim := { program := "ytibgfgfmljhimaa", sum := "02c954efa9e96522ffd01ef364d28590d10cc5b1dc160efd17e0165434bca849", func := "seedling/seedlinglaw06.GramTree", spec := "gramTree", unfollowed := true, recurses := true, apart := false }
def GramTreeSaid : Prop := gramTreeRow.holds Try.pinned (OpenSpec.ofChange gramTreeSpec)

/-- ITS FALSE NEIGHBOUR: 'it returns false'. Refute it at one input. -/
def gramTreeWrong : ChangeSpec := { name := "gramTree", fn := fun _ => fun
  | [d] => { results := [.lit (.bool false)], args := [d] }
  | _ => none }
def GramTreeWrongFalsely : Prop := gramTreeRow.holds Try.pinned (OpenSpec.ofChange gramTreeWrong)

/-- 'seedlinglaw06.GramSame': WHATEVER THE INPUT: true; the input reads as it did. -/
def gramSameSpec : ChangeSpec := { name := "gramSame", fn := fun _ => fun
  | [d1, d2] => { results := [.lit (.bool true)], args := [d1, d2] }
  | _ => none }
def gramSameRow : OpenClaim := { program := "ytibgfgfmljhimaa", sum := "02c954efa9e96522ffd01ef364d28590d10cc5b1dc160efd17e0165434bca849", func := "seedling/seedlinglaw06.GramSame", spec := "gramSame", unfollowed := true, recurses := true, apart := false }
def GramSameSaid : Prop := gramSameRow.holds Try.pinned (OpenSpec.ofChange gramSameSpec)

/-- ITS FALSE NEIGHBOUR: 'it returns false'. Refute it at one input. -/
def gramSameWrong : ChangeSpec := { name := "gramSame", fn := fun _ => fun
  | [d1, d2] => { results := [.lit (.bool false)], args := [d1, d2] }
  | _ => none }
def GramSameWrongFalsely : Prop := gramSameRow.holds Try.pinned (OpenSpec.ofChange gramSameWrong)

/-- 'seedlinglaw06.GramEnds': WHATEVER THE INPUT: true; the input reads as it did. -/
def gramEndsSpec : ChangeSpec := { name := "gramEnds", fn := fun _ => fun
  | [] => { results := [.lit (.bool true)], args := [] }
  | _ => none }
def gramEndsRow : OpenClaim := { program := "ytibgfgfmljhimaa", sum := "02c954efa9e96522ffd01ef364d28590d10cc5b1dc160efd17e0165434bca849", func := "seedling/seedlinglaw06.GramEnds", spec := "gramEnds", unfollowed := true, recurses := true, apart := false }
def GramEndsSaid : Prop := gramEndsRow.holds Try.pinned (OpenSpec.ofChange gramEndsSpec)

/-- ITS FALSE NEIGHBOUR: 'it returns false'. Refute it at one input. -/
def gramEndsWrong : ChangeSpec := { name := "gramEnds", fn := fun _ => fun
  | [] => { results := [.lit (.bool false)], args := [] }
  | _ => none }
def GramEndsWrongFalsely : Prop := gramEndsRow.holds Try.pinned (OpenSpec.ofChange gramEndsWrong)

/-- 'seedlinglaw06.GramWalks': WHATEVER THE INPUT: true; the input reads as it did. -/
def gramWalksSpec : ChangeSpec := { name := "gramWalks", fn := fun _ => fun
  | [d1, d2, d3, d4] => { results := [.lit (.bool true)], args := [d1, d2, d3, d4] }
  | _ => none }
def gramWalksRow : OpenClaim := { program := "ytibgfgfmljhimaa", sum := "02c954efa9e96522ffd01ef364d28590d10cc5b1dc160efd17e0165434bca849", func := "seedling/seedlinglaw06.GramWalks", spec := "gramWalks", unfollowed := true, recurses := true, apart := false }
def GramWalksSaid : Prop := gramWalksRow.holds Try.pinned (OpenSpec.ofChange gramWalksSpec)

/-- ITS FALSE NEIGHBOUR: 'it returns false'. Refute it at one input. -/
def gramWalksWrong : ChangeSpec := { name := "gramWalks", fn := fun _ => fun
  | [d1, d2, d3, d4] => { results := [.lit (.bool false)], args := [d1, d2, d3, d4] }
  | _ => none }
def GramWalksWrongFalsely : Prop := gramWalksRow.holds Try.pinned (OpenSpec.ofChange gramWalksWrong)

/-- 'seedlinglaw11.NullNodes': WHATEVER THE INPUT: true; the input reads as it did. -/
def nullNodesSpec : ChangeSpec := { name := "nullNodes", fn := fun _ => fun
  | [d] => { results := [.lit (.bool true)], args := [d] }
  | _ => none }
def nullNodesRow : OpenClaim := { program := "ytibgfgfmljhimaa", sum := "02c954efa9e96522ffd01ef364d28590d10cc5b1dc160efd17e0165434bca849", func := "seedling/seedlinglaw11.NullNodes", spec := "nullNodes", unfollowed := true, recurses := true, apart := false }
def NullNodesSaid : Prop := nullNodesRow.holds Try.pinned (OpenSpec.ofChange nullNodesSpec)

/-- ITS FALSE NEIGHBOUR: 'it returns false'. Refute it at one input. -/
def nullNodesWrong : ChangeSpec := { name := "nullNodes", fn := fun _ => fun
  | [d] => { results := [.lit (.bool false)], args := [d] }
  | _ => none }
def NullNodesWrongFalsely : Prop := nullNodesRow.holds Try.pinned (OpenSpec.ofChange nullNodesWrong)

/-- 'seedlinglaw11.NullMore': WHATEVER THE INPUT: true; the input reads as it did. -/
def nullMoreSpec : ChangeSpec := { name := "nullMore", fn := fun _ => fun
  | [d1, d2] => { results := [.lit (.bool true)], args := [d1, d2] }
  | _ => none }
def nullMoreRow : OpenClaim := { program := "ytibgfgfmljhimaa", sum := "02c954efa9e96522ffd01ef364d28590d10cc5b1dc160efd17e0165434bca849", func := "seedling/seedlinglaw11.NullMore", spec := "nullMore", unfollowed := true, recurses := true, apart := false }
def NullMoreSaid : Prop := nullMoreRow.holds Try.pinned (OpenSpec.ofChange nullMoreSpec)

/-- ITS FALSE NEIGHBOUR: 'it returns false'. Refute it at one input. -/
def nullMoreWrong : ChangeSpec := { name := "nullMore", fn := fun _ => fun
  | [d1, d2] => { results := [.lit (.bool false)], args := [d1, d2] }
  | _ => none }
def NullMoreWrongFalsely : Prop := nullMoreRow.holds Try.pinned (OpenSpec.ofChange nullMoreWrong)

/-- 'seedlinglaw11.NullAhead': WHATEVER THE INPUT: true; the input reads as it did. -/
def nullAheadSpec : ChangeSpec := { name := "nullAhead", fn := fun _ => fun
  | [d] => { results := [.lit (.bool true)], args := [d] }
  | _ => none }
def nullAheadRow : OpenClaim := { program := "ytibgfgfmljhimaa", sum := "02c954efa9e96522ffd01ef364d28590d10cc5b1dc160efd17e0165434bca849", func := "seedling/seedlinglaw11.NullAhead", spec := "nullAhead", unfollowed := true, recurses := true, apart := false }
def NullAheadSaid : Prop := nullAheadRow.holds Try.pinned (OpenSpec.ofChange nullAheadSpec)

/-- ITS FALSE NEIGHBOUR: 'it returns false'. Refute it at one input. -/
def nullAheadWrong : ChangeSpec := { name := "nullAhead", fn := fun _ => fun
  | [d] => { results := [.lit (.bool false)], args := [d] }
  | _ => none }
def NullAheadWrongFalsely : Prop := nullAheadRow.holds Try.pinned (OpenSpec.ofChange nullAheadWrong)

/-- 'seedlinglaw12.LeftClosed': WHATEVER THE INPUT: true; the input reads as it did. -/
def leftClosedSpec : ChangeSpec := { name := "leftClosed", fn := fun _ => fun
  | [d] => { results := [.lit (.bool true)], args := [d] }
  | _ => none }
def leftClosedRow : OpenClaim := { program := "ytibgfgfmljhimaa", sum := "02c954efa9e96522ffd01ef364d28590d10cc5b1dc160efd17e0165434bca849", func := "seedling/seedlinglaw12.LeftClosed", spec := "leftClosed", unfollowed := true, recurses := true, apart := false }
def LeftClosedSaid : Prop := leftClosedRow.holds Try.pinned (OpenSpec.ofChange leftClosedSpec)

/-- ITS FALSE NEIGHBOUR: 'it returns false'. Refute it at one input. -/
def leftClosedWrong : ChangeSpec := { name := "leftClosed", fn := fun _ => fun
  | [d] => { results := [.lit (.bool false)], args := [d] }
  | _ => none }
def LeftClosedWrongFalsely : Prop := leftClosedRow.holds Try.pinned (OpenSpec.ofChange leftClosedWrong)

/-- 'seedlinglaw12.LeftWay': WHATEVER THE INPUT: true; the input reads as it did. -/
def leftWaySpec : ChangeSpec := { name := "leftWay", fn := fun _ => fun
  | [d1, d2, d3] => { results := [.lit (.bool true)], args := [d1, d2, d3] }
  | _ => none }
def leftWayRow : OpenClaim := { program := "ytibgfgfmljhimaa", sum := "02c954efa9e96522ffd01ef364d28590d10cc5b1dc160efd17e0165434bca849", func := "seedling/seedlinglaw12.LeftWay", spec := "leftWay", unfollowed := true, recurses := true, apart := false }
def LeftWaySaid : Prop := leftWayRow.holds Try.pinned (OpenSpec.ofChange leftWaySpec)

/-- ITS FALSE NEIGHBOUR: 'it returns false'. Refute it at one input. -/
def leftWayWrong : ChangeSpec := { name := "leftWay", fn := fun _ => fun
  | [d1, d2, d3] => { results := [.lit (.bool false)], args := [d1, d2, d3] }
  | _ => none }
def LeftWayWrongFalsely : Prop := leftWayRow.holds Try.pinned (OpenSpec.ofChange leftWayWrong)

/-- 'seedlinglaw12.LeftAhead': WHATEVER THE INPUT: true; the input reads as it did. -/
def leftAheadSpec : ChangeSpec := { name := "leftAhead", fn := fun _ => fun
  | [d] => { results := [.lit (.bool true)], args := [d] }
  | _ => none }
def leftAheadRow : OpenClaim := { program := "ytibgfgfmljhimaa", sum := "02c954efa9e96522ffd01ef364d28590d10cc5b1dc160efd17e0165434bca849", func := "seedling/seedlinglaw12.LeftAhead", spec := "leftAhead", unfollowed := true, recurses := true, apart := false }
def LeftAheadSaid : Prop := leftAheadRow.holds Try.pinned (OpenSpec.ofChange leftAheadSpec)

/-- ITS FALSE NEIGHBOUR: 'it returns false'. Refute it at one input. -/
def leftAheadWrong : ChangeSpec := { name := "leftAhead", fn := fun _ => fun
  | [d] => { results := [.lit (.bool false)], args := [d] }
  | _ => none }
def LeftAheadWrongFalsely : Prop := leftAheadRow.holds Try.pinned (OpenSpec.ofChange leftAheadWrong)

/-- 'seedlinglaw12.LeftOwn': WHATEVER THE INPUT: true; the input reads as it did. -/
def leftOwnSpec : ChangeSpec := { name := "leftOwn", fn := fun _ => fun
  | [d1, d2] => { results := [.lit (.bool true)], args := [d1, d2] }
  | _ => none }
def leftOwnRow : OpenClaim := { program := "ytibgfgfmljhimaa", sum := "02c954efa9e96522ffd01ef364d28590d10cc5b1dc160efd17e0165434bca849", func := "seedling/seedlinglaw12.LeftOwn", spec := "leftOwn", unfollowed := true, recurses := true, apart := false }
def LeftOwnSaid : Prop := leftOwnRow.holds Try.pinned (OpenSpec.ofChange leftOwnSpec)

/-- ITS FALSE NEIGHBOUR: 'it returns false'. Refute it at one input. -/
def leftOwnWrong : ChangeSpec := { name := "leftOwn", fn := fun _ => fun
  | [d1, d2] => { results := [.lit (.bool false)], args := [d1, d2] }
  | _ => none }
def LeftOwnWrongFalsely : Prop := leftOwnRow.holds Try.pinned (OpenSpec.ofChange leftOwnWrong)

/-- 'seedlinglaw15.WellMend': WHATEVER THE INPUT: true; the input reads as it did. -/
def wellMendSpec : ChangeSpec := { name := "wellMend", fn := fun _ => fun
  | [d] => { results := [.lit (.bool true)], args := [d] }
  | _ => none }
def wellMendRow : OpenClaim := { program := "ytibgfgfmljhimaa", sum := "02c954efa9e96522ffd01ef364d28590d10cc5b1dc160efd17e0165434bca849", func := "seedling/seedlinglaw15.WellMend", spec := "wellMend", unfollowed := true, recurses := true, apart := false }
def WellMendSaid : Prop := wellMendRow.holds Try.pinned (OpenSpec.ofChange wellMendSpec)

/-- ITS FALSE NEIGHBOUR: 'it returns false'. Refute it at one input. -/
def wellMendWrong : ChangeSpec := { name := "wellMend", fn := fun _ => fun
  | [d] => { results := [.lit (.bool false)], args := [d] }
  | _ => none }
def WellMendWrongFalsely : Prop := wellMendRow.holds Try.pinned (OpenSpec.ofChange wellMendWrong)

/-- 'seedlinglaw15.WellIdle': WHATEVER THE INPUT: true; the input reads as it did. -/
def wellIdleSpec : ChangeSpec := { name := "wellIdle", fn := fun _ => fun
  | [d] => { results := [.lit (.bool true)], args := [d] }
  | _ => none }
def wellIdleRow : OpenClaim := { program := "ytibgfgfmljhimaa", sum := "02c954efa9e96522ffd01ef364d28590d10cc5b1dc160efd17e0165434bca849", func := "seedling/seedlinglaw15.WellIdle", spec := "wellIdle", unfollowed := true, recurses := true, apart := false }
def WellIdleSaid : Prop := wellIdleRow.holds Try.pinned (OpenSpec.ofChange wellIdleSpec)

/-- ITS FALSE NEIGHBOUR: 'it returns false'. Refute it at one input. -/
def wellIdleWrong : ChangeSpec := { name := "wellIdle", fn := fun _ => fun
  | [d] => { results := [.lit (.bool false)], args := [d] }
  | _ => none }
def WellIdleWrongFalsely : Prop := wellIdleRow.holds Try.pinned (OpenSpec.ofChange wellIdleWrong)

/-- 'seedlinglaw15.WellMore': WHATEVER THE INPUT: true; the input reads as it did. -/
def wellMoreSpec : ChangeSpec := { name := "wellMore", fn := fun _ => fun
  | [d1, d2] => { results := [.lit (.bool true)], args := [d1, d2] }
  | _ => none }
def wellMoreRow : OpenClaim := { program := "ytibgfgfmljhimaa", sum := "02c954efa9e96522ffd01ef364d28590d10cc5b1dc160efd17e0165434bca849", func := "seedling/seedlinglaw15.WellMore", spec := "wellMore", unfollowed := true, recurses := true, apart := false }
def WellMoreSaid : Prop := wellMoreRow.holds Try.pinned (OpenSpec.ofChange wellMoreSpec)

/-- ITS FALSE NEIGHBOUR: 'it returns false'. Refute it at one input. -/
def wellMoreWrong : ChangeSpec := { name := "wellMore", fn := fun _ => fun
  | [d1, d2] => { results := [.lit (.bool false)], args := [d1, d2] }
  | _ => none }
def WellMoreWrongFalsely : Prop := wellMoreRow.holds Try.pinned (OpenSpec.ofChange wellMoreWrong)

/- THE SECOND FORM. 'bulk': how many values and letters a reading holds, each counted each time it is reached (what is shared counts as often as it is met; a slice's spare places count too). A statement '..UptoSaid' is the law's where the arguments, and the package variables that the reading takes, are together of bulk at most 1048576: NARROWER than '..Said'. Prove '..Said' where nothing that the law and all that it calls make is longer than what came in: it says more and counts as full. Else prove '..UptoSaid'. A law counts once. -/
mutual
def uptoBulk {H : Type} : DataW H → Nat
  | .lit (.string bytes) => bytes.length + 1
  | .lit _ => 1
  | .nil => 1
  | .ptr d => uptoBulk d + 1
  | .slice elems spare => uptoBulkAll elems + uptoBulkAll spare + 1
  | .agg parts => uptoBulkAll parts + 1
  | .iface _ d => uptoBulk d + 1
  | .map entries => uptoBulkEntries entries + 1
  | .held _ => 1
def uptoBulkAll {H : Type} : List (DataW H) → Nat
  | [] => 0
  | d :: r => uptoBulk d + uptoBulkAll r
def uptoBulkEntries {H : Type} : List (Lit × DataW H) → Nat
  | [] => 0
  | x :: r => uptoBulkEntry x + uptoBulkEntries r
def uptoBulkEntry {H : Type} : Lit × DataW H → Nat
  | (.string bytes, d) => bytes.length + uptoBulk d + 1
  | (_, d) => uptoBulk d + 1
 end
def uptoSmall : (H : Type) → List (DataW H) → Bool := fun _ ds => decide (uptoBulkAll ds ≤ 1048576)
def OpenSpec.upto (s : _root_.Go.ChangeSpec) : _root_.Go.OpenSpec := { _root_.Go.OpenSpec.ofChange s with cond := some uptoSmall }

/-- 'seedlinglaw06.GramTells', WHERE WHAT IT READS IS OF BULK AT MOST 1048576: true; the input reads as it did. -/
def gramTellsUptoRow : OpenClaim := { program := "ytibgfgfmljhimaa", sum := "02c954efa9e96522ffd01ef364d28590d10cc5b1dc160efd17e0165434bca849", func := "seedling/seedlinglaw06.GramTells", spec := "gramTells", unfollowed := true, recurses := true, apart := false, narrowed := true }
def GramTellsUptoSaid : Prop := gramTellsUptoRow.holds Try.pinned (OpenSpec.upto gramTellsSpec)

/-- 'seedlinglaw06.GramTree', WHERE WHAT IT READS IS OF BULK AT MOST 1048576: true; the input reads as it did. -/
def gramTreeUptoRow : OpenClaim := { program := "ytibgfgfmljhimaa", sum := "02c954efa9e96522ffd01ef364d28590d10cc5b1dc160efd17e0165434bca849", func := "seedling/seedlinglaw06.GramTree", spec := "gramTree", unfollowed := true, recurses := true, apart := false, narrowed := true }
def GramTreeUptoSaid : Prop := gramTreeUptoRow.holds Try.pinned (OpenSpec.upto gramTreeSpec)

/-- 'seedlinglaw06.GramSame', WHERE WHAT IT READS IS OF BULK AT MOST 1048576: true; the input reads as it did. -/
def gramSameUptoRow : OpenClaim := { program := "ytibgfgfmljhimaa", sum := "02c954efa9e96522ffd01ef364d28590d10cc5b1dc160efd17e0165434bca849", func := "seedling/seedlinglaw06.GramSame", spec := "gramSame", unfollowed := true, recurses := true, apart := false, narrowed := true }
def GramSameUptoSaid : Prop := gramSameUptoRow.holds Try.pinned (OpenSpec.upto gramSameSpec)

/-- 'seedlinglaw06.GramEnds', WHERE WHAT IT READS IS OF BULK AT MOST 1048576: true; the input reads as it did. -/
def gramEndsUptoRow : OpenClaim := { program := "ytibgfgfmljhimaa", sum := "02c954efa9e96522ffd01ef364d28590d10cc5b1dc160efd17e0165434bca849", func := "seedling/seedlinglaw06.GramEnds", spec := "gramEnds", unfollowed := true, recurses := true, apart := false, narrowed := true }
def GramEndsUptoSaid : Prop := gramEndsUptoRow.holds Try.pinned (OpenSpec.upto gramEndsSpec)

/-- 'seedlinglaw06.GramWalks', WHERE WHAT IT READS IS OF BULK AT MOST 1048576: true; the input reads as it did. -/
def gramWalksUptoRow : OpenClaim := { program := "ytibgfgfmljhimaa", sum := "02c954efa9e96522ffd01ef364d28590d10cc5b1dc160efd17e0165434bca849", func := "seedling/seedlinglaw06.GramWalks", spec := "gramWalks", unfollowed := true, recurses := true, apart := false, narrowed := true }
def GramWalksUptoSaid : Prop := gramWalksUptoRow.holds Try.pinned (OpenSpec.upto gramWalksSpec)

/-- 'seedlinglaw11.NullNodes', WHERE WHAT IT READS IS OF BULK AT MOST 1048576: true; the input reads as it did. -/
def nullNodesUptoRow : OpenClaim := { program := "ytibgfgfmljhimaa", sum := "02c954efa9e96522ffd01ef364d28590d10cc5b1dc160efd17e0165434bca849", func := "seedling/seedlinglaw11.NullNodes", spec := "nullNodes", unfollowed := true, recurses := true, apart := false, narrowed := true }
def NullNodesUptoSaid : Prop := nullNodesUptoRow.holds Try.pinned (OpenSpec.upto nullNodesSpec)

/-- 'seedlinglaw11.NullMore', WHERE WHAT IT READS IS OF BULK AT MOST 1048576: true; the input reads as it did. -/
def nullMoreUptoRow : OpenClaim := { program := "ytibgfgfmljhimaa", sum := "02c954efa9e96522ffd01ef364d28590d10cc5b1dc160efd17e0165434bca849", func := "seedling/seedlinglaw11.NullMore", spec := "nullMore", unfollowed := true, recurses := true, apart := false, narrowed := true }
def NullMoreUptoSaid : Prop := nullMoreUptoRow.holds Try.pinned (OpenSpec.upto nullMoreSpec)

/-- 'seedlinglaw11.NullAhead', WHERE WHAT IT READS IS OF BULK AT MOST 1048576: true; the input reads as it did. -/
def nullAheadUptoRow : OpenClaim := { program := "ytibgfgfmljhimaa", sum := "02c954efa9e96522ffd01ef364d28590d10cc5b1dc160efd17e0165434bca849", func := "seedling/seedlinglaw11.NullAhead", spec := "nullAhead", unfollowed := true, recurses := true, apart := false, narrowed := true }
def NullAheadUptoSaid : Prop := nullAheadUptoRow.holds Try.pinned (OpenSpec.upto nullAheadSpec)

/-- 'seedlinglaw12.LeftClosed', WHERE WHAT IT READS IS OF BULK AT MOST 1048576: true; the input reads as it did. -/
def leftClosedUptoRow : OpenClaim := { program := "ytibgfgfmljhimaa", sum := "02c954efa9e96522ffd01ef364d28590d10cc5b1dc160efd17e0165434bca849", func := "seedling/seedlinglaw12.LeftClosed", spec := "leftClosed", unfollowed := true, recurses := true, apart := false, narrowed := true }
def LeftClosedUptoSaid : Prop := leftClosedUptoRow.holds Try.pinned (OpenSpec.upto leftClosedSpec)

/-- 'seedlinglaw12.LeftWay', WHERE WHAT IT READS IS OF BULK AT MOST 1048576: true; the input reads as it did. -/
def leftWayUptoRow : OpenClaim := { program := "ytibgfgfmljhimaa", sum := "02c954efa9e96522ffd01ef364d28590d10cc5b1dc160efd17e0165434bca849", func := "seedling/seedlinglaw12.LeftWay", spec := "leftWay", unfollowed := true, recurses := true, apart := false, narrowed := true }
def LeftWayUptoSaid : Prop := leftWayUptoRow.holds Try.pinned (OpenSpec.upto leftWaySpec)

/-- 'seedlinglaw12.LeftAhead', WHERE WHAT IT READS IS OF BULK AT MOST 1048576: true; the input reads as it did. -/
def leftAheadUptoRow : OpenClaim := { program := "ytibgfgfmljhimaa", sum := "02c954efa9e96522ffd01ef364d28590d10cc5b1dc160efd17e0165434bca849", func := "seedling/seedlinglaw12.LeftAhead", spec := "leftAhead", unfollowed := true, recurses := true, apart := false, narrowed := true }
def LeftAheadUptoSaid : Prop := leftAheadUptoRow.holds Try.pinned (OpenSpec.upto leftAheadSpec)

/-- 'seedlinglaw12.LeftOwn', WHERE WHAT IT READS IS OF BULK AT MOST 1048576: true; the input reads as it did. -/
def leftOwnUptoRow : OpenClaim := { program := "ytibgfgfmljhimaa", sum := "02c954efa9e96522ffd01ef364d28590d10cc5b1dc160efd17e0165434bca849", func := "seedling/seedlinglaw12.LeftOwn", spec := "leftOwn", unfollowed := true, recurses := true, apart := false, narrowed := true }
def LeftOwnUptoSaid : Prop := leftOwnUptoRow.holds Try.pinned (OpenSpec.upto leftOwnSpec)

/-- 'seedlinglaw15.WellMend', WHERE WHAT IT READS IS OF BULK AT MOST 1048576: true; the input reads as it did. -/
def wellMendUptoRow : OpenClaim := { program := "ytibgfgfmljhimaa", sum := "02c954efa9e96522ffd01ef364d28590d10cc5b1dc160efd17e0165434bca849", func := "seedling/seedlinglaw15.WellMend", spec := "wellMend", unfollowed := true, recurses := true, apart := false, narrowed := true }
def WellMendUptoSaid : Prop := wellMendUptoRow.holds Try.pinned (OpenSpec.upto wellMendSpec)

/-- 'seedlinglaw15.WellIdle', WHERE WHAT IT READS IS OF BULK AT MOST 1048576: true; the input reads as it did. -/
def wellIdleUptoRow : OpenClaim := { program := "ytibgfgfmljhimaa", sum := "02c954efa9e96522ffd01ef364d28590d10cc5b1dc160efd17e0165434bca849", func := "seedling/seedlinglaw15.WellIdle", spec := "wellIdle", unfollowed := true, recurses := true, apart := false, narrowed := true }
def WellIdleUptoSaid : Prop := wellIdleUptoRow.holds Try.pinned (OpenSpec.upto wellIdleSpec)

/-- 'seedlinglaw15.WellMore', WHERE WHAT IT READS IS OF BULK AT MOST 1048576: true; the input reads as it did. -/
def wellMoreUptoRow : OpenClaim := { program := "ytibgfgfmljhimaa", sum := "02c954efa9e96522ffd01ef364d28590d10cc5b1dc160efd17e0165434bca849", func := "seedling/seedlinglaw15.WellMore", spec := "wellMore", unfollowed := true, recurses := true, apart := false, narrowed := true }
def WellMoreUptoSaid : Prop := wellMoreUptoRow.holds Try.pinned (OpenSpec.upto wellMoreSpec)

end Rows
end Go.Proofs.Ytibgfgfmljhimaa
