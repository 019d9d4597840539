/-
  No cell of these rows narrows 'for every input' (looked for: loops, veiled, ifaces, maps, wideKeys, modest, calm, conditions, laid).
  DERIVED. THE GIVEN ROWS OF THIS SEAT. 4 by the template 'for every input the law returns true; each argument reads behind the call as it read before'; 0 by the template 'total and deterministic' (their statements: YtffjfkjlahdedaaTotals.lean).
  GIVEN WITH THE SEED: the statements are not yours to turn. If you find one false, say at which input.
  Laid BY PROGRAM, IN A SANDBOX (cutbox-rows.mjs): the forced cells as the released guide's own fill.sh prints them over the translation 1105c25ef42f5d98… (all of the seat's roots in one cut). By AI agents, Wed Nov 11 2026. No macro, syntax, notation, axiom, sorry.
-/
import Derived.Test.YtffjfkjlahdedaaChecked
import GoSem.Claim
import GoSem.ClaimJoined
import GoSem.ClaimMapViews
import Derived.JoinedTies
import Derived.KernelRfl
namespace Go.Proofs.Ytffjfkjlahdedaa
/- THE CELL 'sum', in the pinned program and in every row, IS THE sha256 OF THE DUMP (.gsa) THAT YtffjfkjlahdedaaProg.lean LOADS. Nothing in Lean hashes anything: it is a label: what it is worth is what the hold of that sum in a sandbox is worth. -/
noncomputable def Try.pinned : Pinned := { name := "ytffjfkjlahdedaa", sum := "1105c25ef42f5d9894d04ca0cf0b2b67273f01af1b9f41e7c6d1f69ac62a8890", checked := Try.checked }
namespace Rows
def none {H : Type} : Left H := { results := [], args := [] }

/-- 'seedlinglaw19.SeedGrows': WHATEVER THE INPUT: true; the input reads as it did. -/
def seedGrowsSpec : ChangeSpec := { name := "seedGrows", fn := fun _ => fun
  | [d1, d2, d3, d4] => { results := [.lit (.bool true)], args := [d1, d2, d3, d4] }
  | _ => none }
def seedGrowsRow : OpenClaim := { program := "ytffjfkjlahdedaa", sum := "1105c25ef42f5d9894d04ca0cf0b2b67273f01af1b9f41e7c6d1f69ac62a8890", func := "seedling/seedlinglaw19.SeedGrows", spec := "seedGrows", unfollowed := true, recurses := true, plainKeys := false, apart := false }
def SeedGrowsSaid : Prop := seedGrowsRow.holds Try.pinned (OpenSpec.ofChange seedGrowsSpec)

/-- ITS FALSE NEIGHBOUR: 'it returns false'. Refute it at one input. -/
def seedGrowsWrong : ChangeSpec := { name := "seedGrows", fn := fun _ => fun
  | [d1, d2, d3, d4] => { results := [.lit (.bool false)], args := [d1, d2, d3, d4] }
  | _ => none }
def SeedGrowsWrongFalsely : Prop := seedGrowsRow.holds Try.pinned (OpenSpec.ofChange seedGrowsWrong)

/-- 'seedlinglaw19.SeedNests': WHATEVER THE INPUT: true; the input reads as it did. -/
def seedNestsSpec : ChangeSpec := { name := "seedNests", fn := fun _ => fun
  | [d] => { results := [.lit (.bool true)], args := [d] }
  | _ => none }
def seedNestsRow : OpenClaim := { program := "ytffjfkjlahdedaa", sum := "1105c25ef42f5d9894d04ca0cf0b2b67273f01af1b9f41e7c6d1f69ac62a8890", func := "seedling/seedlinglaw19.SeedNests", spec := "seedNests", unfollowed := true, recurses := true, plainKeys := false, apart := false }
def SeedNestsSaid : Prop := seedNestsRow.holds Try.pinned (OpenSpec.ofChange seedNestsSpec)

/-- ITS FALSE NEIGHBOUR: 'it returns false'. Refute it at one input. -/
def seedNestsWrong : ChangeSpec := { name := "seedNests", fn := fun _ => fun
  | [d] => { results := [.lit (.bool false)], args := [d] }
  | _ => none }
def SeedNestsWrongFalsely : Prop := seedNestsRow.holds Try.pinned (OpenSpec.ofChange seedNestsWrong)

/-- 'seedlinglaw19.SeedDoes': WHATEVER THE INPUT: true; the input reads as it did. -/
def seedDoesSpec : ChangeSpec := { name := "seedDoes", fn := fun _ => fun
  | [d] => { results := [.lit (.bool true)], args := [d] }
  | _ => none }
def seedDoesRow : OpenClaim := { program := "ytffjfkjlahdedaa", sum := "1105c25ef42f5d9894d04ca0cf0b2b67273f01af1b9f41e7c6d1f69ac62a8890", func := "seedling/seedlinglaw19.SeedDoes", spec := "seedDoes", inPlace := ["maps.clone"], unfollowed := true, recurses := true, plainKeys := false, apart := false }
def SeedDoesSaid : Prop := seedDoesRow.holds Try.pinned (OpenSpec.ofChange seedDoesSpec)

/-- ITS FALSE NEIGHBOUR: 'it returns false'. Refute it at one input. -/
def seedDoesWrong : ChangeSpec := { name := "seedDoes", fn := fun _ => fun
  | [d] => { results := [.lit (.bool false)], args := [d] }
  | _ => none }
def SeedDoesWrongFalsely : Prop := seedDoesRow.holds Try.pinned (OpenSpec.ofChange seedDoesWrong)

/-- 'seedlinglaw19.SeedSmall': WHATEVER THE INPUT: true; the input reads as it did. -/
def seedSmallSpec : ChangeSpec := { name := "seedSmall", fn := fun _ => fun
  | [] => { results := [.lit (.bool true)], args := [] }
  | _ => none }
def seedSmallRow : OpenClaim := { program := "ytffjfkjlahdedaa", sum := "1105c25ef42f5d9894d04ca0cf0b2b67273f01af1b9f41e7c6d1f69ac62a8890", func := "seedling/seedlinglaw19.SeedSmall", spec := "seedSmall", inPlace := ["maps.clone"], unfollowed := true, recurses := true, plainKeys := false, apart := false }
def SeedSmallSaid : Prop := seedSmallRow.holds Try.pinned (OpenSpec.ofChange seedSmallSpec)

/-- ITS FALSE NEIGHBOUR: 'it returns false'. Refute it at one input. -/
def seedSmallWrong : ChangeSpec := { name := "seedSmall", fn := fun _ => fun
  | [] => { results := [.lit (.bool false)], args := [] }
  | _ => none }
def SeedSmallWrongFalsely : Prop := seedSmallRow.holds Try.pinned (OpenSpec.ofChange seedSmallWrong)

/- THE SECOND FORM. 'bulk': how many values and letters a reading holds, each counted each time it is reached (what is shared counts as often as it is met; a slice's spare places count too). A statement '..UptoSaid' is the law's where the arguments, and the package variables that the reading takes, are together of bulk at most 1048576: NARROWER than '..Said'. Prove '..Said' where nothing that the law and all that it calls make is longer than what came in: it says more and counts as full. Else prove '..UptoSaid'. A law counts once. -/
mutual
def uptoBulk {H : Type} : DataW H → Nat
  | .lit (.string bytes) => bytes.length + 1
  | .lit _ => 1
  | .nil => 1
  | .ptr d => uptoBulk d + 1
  | .slice elems spare => uptoBulkAll elems + uptoBulkAll spare + 1
  | .agg parts => uptoBulkAll parts + 1
  | .iface _ d => uptoBulk d + 1
  | .map entries => uptoBulkEntries entries + 1
  | .held _ => 1
def uptoBulkAll {H : Type} : List (DataW H) → Nat
  | [] => 0
  | d :: r => uptoBulk d + uptoBulkAll r
def uptoBulkEntries {H : Type} : List (Lit × DataW H) → Nat
  | [] => 0
  | x :: r => uptoBulkEntry x + uptoBulkEntries r
def uptoBulkEntry {H : Type} : Lit × DataW H → Nat
  | (.string bytes, d) => bytes.length + uptoBulk d + 1
  | (_, d) => uptoBulk d + 1
 end
def uptoSmall : (H : Type) → List (DataW H) → Bool := fun _ ds => decide (uptoBulkAll ds ≤ 1048576)
def OpenSpec.upto (s : _root_.Go.ChangeSpec) : _root_.Go.OpenSpec := { _root_.Go.OpenSpec.ofChange s with cond := some uptoSmall }

/-- 'seedlinglaw19.SeedGrows', WHERE WHAT IT READS IS OF BULK AT MOST 1048576: true; the input reads as it did. -/
def seedGrowsUptoRow : OpenClaim := { program := "ytffjfkjlahdedaa", sum := "1105c25ef42f5d9894d04ca0cf0b2b67273f01af1b9f41e7c6d1f69ac62a8890", func := "seedling/seedlinglaw19.SeedGrows", spec := "seedGrows", unfollowed := true, recurses := true, plainKeys := false, apart := false, narrowed := true }
def SeedGrowsUptoSaid : Prop := seedGrowsUptoRow.holds Try.pinned (OpenSpec.upto seedGrowsSpec)

/-- 'seedlinglaw19.SeedNests', WHERE WHAT IT READS IS OF BULK AT MOST 1048576: true; the input reads as it did. -/
def seedNestsUptoRow : OpenClaim := { program := "ytffjfkjlahdedaa", sum := "1105c25ef42f5d9894d04ca0cf0b2b67273f01af1b9f41e7c6d1f69ac62a8890", func := "seedling/seedlinglaw19.SeedNests", spec := "seedNests", unfollowed := true, recurses := true, plainKeys := false, apart := false, narrowed := true }
def SeedNestsUptoSaid : Prop := seedNestsUptoRow.holds Try.pinned (OpenSpec.upto seedNestsSpec)

/-- 'seedlinglaw19.SeedDoes', WHERE WHAT IT READS IS OF BULK AT MOST 1048576: true; the input reads as it did. -/
def seedDoesUptoRow : OpenClaim := { program := "ytffjfkjlahdedaa", sum := "1105c25ef42f5d9894d04ca0cf0b2b67273f01af1b9f41e7c6d1f69ac62a8890", func := "seedling/seedlinglaw19.SeedDoes", spec := "seedDoes", inPlace := ["maps.clone"], unfollowed := true, recurses := true, plainKeys := false, apart := false, narrowed := true }
def SeedDoesUptoSaid : Prop := seedDoesUptoRow.holds Try.pinned (OpenSpec.upto seedDoesSpec)

/-- 'seedlinglaw19.SeedSmall', WHERE WHAT IT READS IS OF BULK AT MOST 1048576: true; the input reads as it did. -/
def seedSmallUptoRow : OpenClaim := { program := "ytffjfkjlahdedaa", sum := "1105c25ef42f5d9894d04ca0cf0b2b67273f01af1b9f41e7c6d1f69ac62a8890", func := "seedling/seedlinglaw19.SeedSmall", spec := "seedSmall", inPlace := ["maps.clone"], unfollowed := true, recurses := true, plainKeys := false, apart := false, narrowed := true }
def SeedSmallUptoSaid : Prop := seedSmallUptoRow.holds Try.pinned (OpenSpec.upto seedSmallSpec)

end Rows
end Go.Proofs.Ytffjfkjlahdedaa
