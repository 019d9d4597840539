/-
  No cell of these rows narrows 'for every input' (looked for: loops, veiled, ifaces, maps, wideKeys, modest, calm, conditions, laid).
  DERIVED. THE GIVEN ROWS OF THIS SEAT. 5 by the template 'for every input the law returns true; each argument reads behind the call as it read before'; 0 by the template 'total and deterministic' (their statements: YtnajhcoimohcaaaTotals.lean).
  GIVEN WITH THE SEED: the statements are not yours to turn. If you find one false, say at which input.
  Laid BY PROGRAM, IN A SANDBOX (cutbox-rows.mjs): the forced cells as the released guide's own fill.sh prints them over the translation 589df81e15c8ce45… (all of the seat's roots in one cut). By AI agents, Wed Nov 11 2026. No macro, syntax, notation, axiom, sorry.
-/
import Derived.Test.YtnajhcoimohcaaaChecked
import GoSem.Claim
import GoSem.ClaimJoined
import GoSem.ClaimMapViews
import Derived.JoinedTies
import Derived.KernelRfl
namespace Go.Proofs.Ytnajhcoimohcaaa
/- THE CELL 'sum', in the pinned program and in every row, IS THE sha256 OF THE DUMP (.gsa) THAT YtnajhcoimohcaaaProg.lean LOADS. Nothing in Lean hashes anything: it is a label: what it is worth is what the hold of that sum in a sandbox is worth. -/
noncomputable def Try.pinned : Pinned := { name := "ytnajhcoimohcaaa", sum := "589df81e15c8ce456e435626517966d23ad9c0e0e09e9a3014c3cf1681e64dc8", checked := Try.checked }
namespace Rows
def none {H : Type} : Left H := { results := [], args := [] }

/-- 'seedlinglaw20.HeadsInvolves': WHATEVER THE INPUT: true; the input reads as it did. -/
def headsInvolvesSpec : ChangeSpec := { name := "headsInvolves", fn := fun _ => fun
  | [d] => { results := [.lit (.bool true)], args := [d] }
  | _ => none }
def headsInvolvesRow : OpenClaim := { program := "ytnajhcoimohcaaa", sum := "589df81e15c8ce456e435626517966d23ad9c0e0e09e9a3014c3cf1681e64dc8", func := "seedling/seedlinglaw20.HeadsInvolves", spec := "headsInvolves", unfollowed := true, recurses := true, apart := false }
def HeadsInvolvesSaid : Prop := headsInvolvesRow.holds Try.pinned (OpenSpec.ofChange headsInvolvesSpec)

/-- ITS FALSE NEIGHBOUR: 'it returns false'. Refute it at one input. -/
def headsInvolvesWrong : ChangeSpec := { name := "headsInvolves", fn := fun _ => fun
  | [d] => { results := [.lit (.bool false)], args := [d] }
  | _ => none }
def HeadsInvolvesWrongFalsely : Prop := headsInvolvesRow.holds Try.pinned (OpenSpec.ofChange headsInvolvesWrong)

/-- 'seedlinglaw20.HeadsTaints': WHATEVER THE INPUT: true; the input reads as it did. -/
def headsTaintsSpec : ChangeSpec := { name := "headsTaints", fn := fun _ => fun
  | [d] => { results := [.lit (.bool true)], args := [d] }
  | _ => none }
def headsTaintsRow : OpenClaim := { program := "ytnajhcoimohcaaa", sum := "589df81e15c8ce456e435626517966d23ad9c0e0e09e9a3014c3cf1681e64dc8", func := "seedling/seedlinglaw20.HeadsTaints", spec := "headsTaints", unfollowed := true, recurses := true, apart := false }
def HeadsTaintsSaid : Prop := headsTaintsRow.holds Try.pinned (OpenSpec.ofChange headsTaintsSpec)

/-- ITS FALSE NEIGHBOUR: 'it returns false'. Refute it at one input. -/
def headsTaintsWrong : ChangeSpec := { name := "headsTaints", fn := fun _ => fun
  | [d] => { results := [.lit (.bool false)], args := [d] }
  | _ => none }
def HeadsTaintsWrongFalsely : Prop := headsTaintsRow.holds Try.pinned (OpenSpec.ofChange headsTaintsWrong)

/-- 'seedlinglaw20.HeadsFree': WHATEVER THE INPUT: true; the input reads as it did. -/
def headsFreeSpec : ChangeSpec := { name := "headsFree", fn := fun _ => fun
  | [d1, d2, d3] => { results := [.lit (.bool true)], args := [d1, d2, d3] }
  | _ => none }
def headsFreeRow : OpenClaim := { program := "ytnajhcoimohcaaa", sum := "589df81e15c8ce456e435626517966d23ad9c0e0e09e9a3014c3cf1681e64dc8", func := "seedling/seedlinglaw20.HeadsFree", spec := "headsFree", unfollowed := true, recurses := true, apart := false }
def HeadsFreeSaid : Prop := headsFreeRow.holds Try.pinned (OpenSpec.ofChange headsFreeSpec)

/-- ITS FALSE NEIGHBOUR: 'it returns false'. Refute it at one input. -/
def headsFreeWrong : ChangeSpec := { name := "headsFree", fn := fun _ => fun
  | [d1, d2, d3] => { results := [.lit (.bool false)], args := [d1, d2, d3] }
  | _ => none }
def HeadsFreeWrongFalsely : Prop := headsFreeRow.holds Try.pinned (OpenSpec.ofChange headsFreeWrong)

/-- 'seedlinglaw20.HeadsDoes': WHATEVER THE INPUT: true; the input reads as it did. -/
def headsDoesSpec : ChangeSpec := { name := "headsDoes", fn := fun _ => fun
  | [d] => { results := [.lit (.bool true)], args := [d] }
  | _ => none }
def headsDoesRow : OpenClaim := { program := "ytnajhcoimohcaaa", sum := "589df81e15c8ce456e435626517966d23ad9c0e0e09e9a3014c3cf1681e64dc8", func := "seedling/seedlinglaw20.HeadsDoes", spec := "headsDoes", inPlace := ["maps.clone"], unfollowed := true, recurses := true, apart := false }
def HeadsDoesSaid : Prop := headsDoesRow.holds Try.pinned (OpenSpec.ofChange headsDoesSpec)

/-- ITS FALSE NEIGHBOUR: 'it returns false'. Refute it at one input. -/
def headsDoesWrong : ChangeSpec := { name := "headsDoes", fn := fun _ => fun
  | [d] => { results := [.lit (.bool false)], args := [d] }
  | _ => none }
def HeadsDoesWrongFalsely : Prop := headsDoesRow.holds Try.pinned (OpenSpec.ofChange headsDoesWrong)

/-- 'seedlinglaw20.HeadsSmall': WHATEVER THE INPUT: true; the input reads as it did. -/
def headsSmallSpec : ChangeSpec := { name := "headsSmall", fn := fun _ => fun
  | [] => { results := [.lit (.bool true)], args := [] }
  | _ => none }
def headsSmallRow : OpenClaim := { program := "ytnajhcoimohcaaa", sum := "589df81e15c8ce456e435626517966d23ad9c0e0e09e9a3014c3cf1681e64dc8", func := "seedling/seedlinglaw20.HeadsSmall", spec := "headsSmall", inPlace := ["maps.clone"], unfollowed := true, recurses := true, apart := false }
def HeadsSmallSaid : Prop := headsSmallRow.holds Try.pinned (OpenSpec.ofChange headsSmallSpec)

/-- ITS FALSE NEIGHBOUR: 'it returns false'. Refute it at one input. -/
def headsSmallWrong : ChangeSpec := { name := "headsSmall", fn := fun _ => fun
  | [] => { results := [.lit (.bool false)], args := [] }
  | _ => none }
def HeadsSmallWrongFalsely : Prop := headsSmallRow.holds Try.pinned (OpenSpec.ofChange headsSmallWrong)

/- THE SECOND FORM. 'bulk': how many values and letters a reading holds, each counted each time it is reached (what is shared counts as often as it is met; a slice's spare places count too). A statement '..UptoSaid' is the law's where the arguments, and the package variables that the reading takes, are together of bulk at most 1048576: NARROWER than '..Said'. Prove '..Said' where nothing that the law and all that it calls make is longer than what came in: it says more and counts as full. Else prove '..UptoSaid'. A law counts once. -/
mutual
def uptoBulk {H : Type} : DataW H → Nat
  | .lit (.string bytes) => bytes.length + 1
  | .lit _ => 1
  | .nil => 1
  | .ptr d => uptoBulk d + 1
  | .slice elems spare => uptoBulkAll elems + uptoBulkAll spare + 1
  | .agg parts => uptoBulkAll parts + 1
  | .iface _ d => uptoBulk d + 1
  | .map entries => uptoBulkEntries entries + 1
  | .held _ => 1
def uptoBulkAll {H : Type} : List (DataW H) → Nat
  | [] => 0
  | d :: r => uptoBulk d + uptoBulkAll r
def uptoBulkEntries {H : Type} : List (Lit × DataW H) → Nat
  | [] => 0
  | x :: r => uptoBulkEntry x + uptoBulkEntries r
def uptoBulkEntry {H : Type} : Lit × DataW H → Nat
  | (.string bytes, d) => bytes.length + uptoBulk d + 1
  | (_, d) => uptoBulk d + 1
 end
def uptoSmall : (H : Type) → List (DataW H) → Bool := fun _ ds => decide (uptoBulkAll ds ≤ 1048576)
def OpenSpec.upto (s : _root_.Go.ChangeSpec) : _root_.Go.OpenSpec := { _root_.Go.OpenSpec.ofChange s with cond := some uptoSmall }

/-- 'seedlinglaw20.HeadsInvolves', WHERE WHAT IT READS IS OF BULK AT MOST 1048576: true; the input reads as it did. -/
def headsInvolvesUptoRow : OpenClaim := { program := "ytnajhcoimohcaaa", sum := "589df81e15c8ce456e435626517966d23ad9c0e0e09e9a3014c3cf1681e64dc8", func := "seedling/seedlinglaw20.HeadsInvolves", spec := "headsInvolves", unfollowed := true, recurses := true, apart := false, narrowed := true }
def HeadsInvolvesUptoSaid : Prop := headsInvolvesUptoRow.holds Try.pinned (OpenSpec.upto headsInvolvesSpec)

/-- 'seedlinglaw20.HeadsTaints', WHERE WHAT IT READS IS OF BULK AT MOST 1048576: true; the input reads as it did. -/
def headsTaintsUptoRow : OpenClaim := { program := "ytnajhcoimohcaaa", sum := "589df81e15c8ce456e435626517966d23ad9c0e0e09e9a3014c3cf1681e64dc8", func := "seedling/seedlinglaw20.HeadsTaints", spec := "headsTaints", unfollowed := true, recurses := true, apart := false, narrowed := true }
def HeadsTaintsUptoSaid : Prop := headsTaintsUptoRow.holds Try.pinned (OpenSpec.upto headsTaintsSpec)

/-- 'seedlinglaw20.HeadsFree', WHERE WHAT IT READS IS OF BULK AT MOST 1048576: true; the input reads as it did. -/
def headsFreeUptoRow : OpenClaim := { program := "ytnajhcoimohcaaa", sum := "589df81e15c8ce456e435626517966d23ad9c0e0e09e9a3014c3cf1681e64dc8", func := "seedling/seedlinglaw20.HeadsFree", spec := "headsFree", unfollowed := true, recurses := true, apart := false, narrowed := true }
def HeadsFreeUptoSaid : Prop := headsFreeUptoRow.holds Try.pinned (OpenSpec.upto headsFreeSpec)

/-- 'seedlinglaw20.HeadsDoes', WHERE WHAT IT READS IS OF BULK AT MOST 1048576: true; the input reads as it did. -/
def headsDoesUptoRow : OpenClaim := { program := "ytnajhcoimohcaaa", sum := "589df81e15c8ce456e435626517966d23ad9c0e0e09e9a3014c3cf1681e64dc8", func := "seedling/seedlinglaw20.HeadsDoes", spec := "headsDoes", inPlace := ["maps.clone"], unfollowed := true, recurses := true, apart := false, narrowed := true }
def HeadsDoesUptoSaid : Prop := headsDoesUptoRow.holds Try.pinned (OpenSpec.upto headsDoesSpec)

/-- 'seedlinglaw20.HeadsSmall', WHERE WHAT IT READS IS OF BULK AT MOST 1048576: true; the input reads as it did. -/
def headsSmallUptoRow : OpenClaim := { program := "ytnajhcoimohcaaa", sum := "589df81e15c8ce456e435626517966d23ad9c0e0e09e9a3014c3cf1681e64dc8", func := "seedling/seedlinglaw20.HeadsSmall", spec := "headsSmall", inPlace := ["maps.clone"], unfollowed := true, recurses := true, apart := false, narrowed := true }
def HeadsSmallUptoSaid : Prop := headsSmallUptoRow.holds Try.pinned (OpenSpec.upto headsSmallSpec)

end Rows
end Go.Proofs.Ytnajhcoimohcaaa
