/-
  NARROWER THAN 'FOR EVERY INPUT', by the rows' own cells (each row's printed sentence says how): SortNames: laid · SortOrder: laid · SortTells: laid · SortEnds: laid · SortAlone: laid · SortGoes: laid.
  DERIVED. THE GIVEN ROWS OF THIS SEAT. 6 by the template 'for every input the law returns true; each argument reads behind the call as it read before'; 0 by the template 'total and deterministic' (their statements: YtlklmpjakeedcaaGreatDoorTotals.lean).
  GIVEN WITH THE SEED: the statements are not yours to turn. If you find one false, say at which input.
  Laid BY PROGRAM, IN A SANDBOX (cutbox-rows.mjs): the forced cells as the released guide's own fill.sh prints them over the translation 140b75d33b40dbe9… (all of the seat's roots in one cut). By AI agents, Wed Nov 11 2026. No macro, syntax, notation, axiom, sorry.
-/
import Derived.Test.YtlklmpjakeedcaaGreatDoorChecked
import GoSem.Claim
import GoSem.ClaimJoined
import GoSem.ClaimMapViews
import Derived.JoinedTies
import Derived.KernelRfl
namespace Go.Proofs.YtlklmpjakeedcaaGreatDoor
/- THE CELL 'sum', in the pinned program and in every row, IS THE sha256 OF THE DUMP (.gsa) THAT YtlklmpjakeedcaaGreatDoorProg.lean LOADS. Nothing in Lean hashes anything: it is a label: what it is worth is what the hold of that sum in a sandbox is worth. -/
noncomputable def Tryz.pinned : Pinned := { name := "ytlklmpjakeedcaagreatdoor", sum := "140b75d33b40dbe943595408e4c905ed8f8c901c6df1d93955012c1cab7a7377", checked := Tryz.checked }
namespace Rows
def none {H : Type} : Left H := { results := [], args := [] }

/- WHAT THE LISTED PACKAGE-LEVEL VARIABLES READ AS WHEN THE CALL BEGINS. Each datum BY PROGRAM (the guide's laid-datum.mjs) off the statement by which the dump's own 'gosem.cut.vars' lays the variable. In a bare row this is a premise. The card (YtlklmpjakeedcaaGreatDoorCards.lean) ties it to the program's text. -/
def laid_seedling_sort_words {H : Type} : DataW H := .agg [.lit (.string [110, 111, 110, 101]), .lit (.string [100, 105, 114, 101, 99, 116]), .lit (.string [105, 110, 100, 105, 114, 101, 99, 116]), .lit (.string [98, 111, 116, 104])]

/-- 'seedlinglaw14.SortNames': WHATEVER THE INPUT: true; the input reads as it did. -/
def sortNamesSpec : ChangeSpec := { name := "sortNames", fn := fun _ => fun
  | [d] => { results := [.lit (.bool true)], args := [d] }
  | _ => none }
def sortNamesRow : OpenClaim := { program := "ytlklmpjakeedcaagreatdoor", sum := "140b75d33b40dbe943595408e4c905ed8f8c901c6df1d93955012c1cab7a7377", func := "seedling/seedlinglaw14.SortNames", spec := "sortNames", unfollowed := true, recurses := true, named := ["seedling/sort.words"], apart := false, laid := [("seedling/sort.words", laid_seedling_sort_words)] }
def SortNamesSaid : Prop := sortNamesRow.holds Tryz.pinned (OpenSpec.ofChange sortNamesSpec)

/-- ITS FALSE NEIGHBOUR: 'it returns false'. Refute it at one input. -/
def sortNamesWrong : ChangeSpec := { name := "sortNames", fn := fun _ => fun
  | [d] => { results := [.lit (.bool false)], args := [d] }
  | _ => none }
def SortNamesWrongFalsely : Prop := sortNamesRow.holds Tryz.pinned (OpenSpec.ofChange sortNamesWrong)

/-- 'seedlinglaw14.SortOrder': WHATEVER THE INPUT: true; the input reads as it did. -/
def sortOrderSpec : ChangeSpec := { name := "sortOrder", fn := fun _ => fun
  | [d] => { results := [.lit (.bool true)], args := [d] }
  | _ => none }
def sortOrderRow : OpenClaim := { program := "ytlklmpjakeedcaagreatdoor", sum := "140b75d33b40dbe943595408e4c905ed8f8c901c6df1d93955012c1cab7a7377", func := "seedling/seedlinglaw14.SortOrder", spec := "sortOrder", unfollowed := true, recurses := true, named := ["seedling/sort.words"], apart := false, laid := [("seedling/sort.words", laid_seedling_sort_words)] }
def SortOrderSaid : Prop := sortOrderRow.holds Tryz.pinned (OpenSpec.ofChange sortOrderSpec)

/-- ITS FALSE NEIGHBOUR: 'it returns false'. Refute it at one input. -/
def sortOrderWrong : ChangeSpec := { name := "sortOrder", fn := fun _ => fun
  | [d] => { results := [.lit (.bool false)], args := [d] }
  | _ => none }
def SortOrderWrongFalsely : Prop := sortOrderRow.holds Tryz.pinned (OpenSpec.ofChange sortOrderWrong)

/-- 'seedlinglaw14.SortTells': WHATEVER THE INPUT: true; the input reads as it did. -/
def sortTellsSpec : ChangeSpec := { name := "sortTells", fn := fun _ => fun
  | [d1, d2] => { results := [.lit (.bool true)], args := [d1, d2] }
  | _ => none }
def sortTellsRow : OpenClaim := { program := "ytlklmpjakeedcaagreatdoor", sum := "140b75d33b40dbe943595408e4c905ed8f8c901c6df1d93955012c1cab7a7377", func := "seedling/seedlinglaw14.SortTells", spec := "sortTells", unfollowed := true, recurses := true, named := ["seedling/sort.words"], apart := false, laid := [("seedling/sort.words", laid_seedling_sort_words)] }
def SortTellsSaid : Prop := sortTellsRow.holds Tryz.pinned (OpenSpec.ofChange sortTellsSpec)

/-- ITS FALSE NEIGHBOUR: 'it returns false'. Refute it at one input. -/
def sortTellsWrong : ChangeSpec := { name := "sortTells", fn := fun _ => fun
  | [d1, d2] => { results := [.lit (.bool false)], args := [d1, d2] }
  | _ => none }
def SortTellsWrongFalsely : Prop := sortTellsRow.holds Tryz.pinned (OpenSpec.ofChange sortTellsWrong)

/-- 'seedlinglaw14.SortEnds': WHATEVER THE INPUT: true; the input reads as it did. -/
def sortEndsSpec : ChangeSpec := { name := "sortEnds", fn := fun _ => fun
  | [] => { results := [.lit (.bool true)], args := [] }
  | _ => none }
def sortEndsRow : OpenClaim := { program := "ytlklmpjakeedcaagreatdoor", sum := "140b75d33b40dbe943595408e4c905ed8f8c901c6df1d93955012c1cab7a7377", func := "seedling/seedlinglaw14.SortEnds", spec := "sortEnds", unfollowed := true, recurses := true, named := ["seedling/sort.words"], apart := false, laid := [("seedling/sort.words", laid_seedling_sort_words)] }
def SortEndsSaid : Prop := sortEndsRow.holds Tryz.pinned (OpenSpec.ofChange sortEndsSpec)

/-- ITS FALSE NEIGHBOUR: 'it returns false'. Refute it at one input. -/
def sortEndsWrong : ChangeSpec := { name := "sortEnds", fn := fun _ => fun
  | [] => { results := [.lit (.bool false)], args := [] }
  | _ => none }
def SortEndsWrongFalsely : Prop := sortEndsRow.holds Tryz.pinned (OpenSpec.ofChange sortEndsWrong)

/-- 'seedlinglaw14.SortAlone': WHATEVER THE INPUT: true; the input reads as it did. -/
def sortAloneSpec : ChangeSpec := { name := "sortAlone", fn := fun _ => fun
  | [d1, d2] => { results := [.lit (.bool true)], args := [d1, d2] }
  | _ => none }
def sortAloneRow : OpenClaim := { program := "ytlklmpjakeedcaagreatdoor", sum := "140b75d33b40dbe943595408e4c905ed8f8c901c6df1d93955012c1cab7a7377", func := "seedling/seedlinglaw14.SortAlone", spec := "sortAlone", unfollowed := true, recurses := true, named := ["seedling/sort.words"], apart := false, laid := [("seedling/sort.words", laid_seedling_sort_words)] }
def SortAloneSaid : Prop := sortAloneRow.holds Tryz.pinned (OpenSpec.ofChange sortAloneSpec)

/-- ITS FALSE NEIGHBOUR: 'it returns false'. Refute it at one input. -/
def sortAloneWrong : ChangeSpec := { name := "sortAlone", fn := fun _ => fun
  | [d1, d2] => { results := [.lit (.bool false)], args := [d1, d2] }
  | _ => none }
def SortAloneWrongFalsely : Prop := sortAloneRow.holds Tryz.pinned (OpenSpec.ofChange sortAloneWrong)

/-- 'seedlinglaw14.SortGoes': WHATEVER THE INPUT: true; the input reads as it did. -/
def sortGoesSpec : ChangeSpec := { name := "sortGoes", fn := fun _ => fun
  | [d] => { results := [.lit (.bool true)], args := [d] }
  | _ => none }
def sortGoesRow : OpenClaim := { program := "ytlklmpjakeedcaagreatdoor", sum := "140b75d33b40dbe943595408e4c905ed8f8c901c6df1d93955012c1cab7a7377", func := "seedling/seedlinglaw14.SortGoes", spec := "sortGoes", unfollowed := true, recurses := true, named := ["seedling/sort.words"], apart := false, laid := [("seedling/sort.words", laid_seedling_sort_words)] }
def SortGoesSaid : Prop := sortGoesRow.holds Tryz.pinned (OpenSpec.ofChange sortGoesSpec)

/-- ITS FALSE NEIGHBOUR: 'it returns false'. Refute it at one input. -/
def sortGoesWrong : ChangeSpec := { name := "sortGoes", fn := fun _ => fun
  | [d] => { results := [.lit (.bool false)], args := [d] }
  | _ => none }
def SortGoesWrongFalsely : Prop := sortGoesRow.holds Tryz.pinned (OpenSpec.ofChange sortGoesWrong)

/- THE SECOND FORM. 'bulk': how many values and letters a reading holds, each counted each time it is reached (what is shared counts as often as it is met; a slice's spare places count too). A statement '..UptoSaid' is the law's where the arguments, and the package variables that the reading takes, are together of bulk at most 1048576: NARROWER than '..Said'. Prove '..Said' where nothing that the law and all that it calls make is longer than what came in: it says more and counts as full. Else prove '..UptoSaid'. A law counts once. -/
mutual
def uptoBulk {H : Type} : DataW H → Nat
  | .lit (.string bytes) => bytes.length + 1
  | .lit _ => 1
  | .nil => 1
  | .ptr d => uptoBulk d + 1
  | .slice elems spare => uptoBulkAll elems + uptoBulkAll spare + 1
  | .agg parts => uptoBulkAll parts + 1
  | .iface _ d => uptoBulk d + 1
  | .map entries => uptoBulkEntries entries + 1
  | .held _ => 1
def uptoBulkAll {H : Type} : List (DataW H) → Nat
  | [] => 0
  | d :: r => uptoBulk d + uptoBulkAll r
def uptoBulkEntries {H : Type} : List (Lit × DataW H) → Nat
  | [] => 0
  | x :: r => uptoBulkEntry x + uptoBulkEntries r
def uptoBulkEntry {H : Type} : Lit × DataW H → Nat
  | (.string bytes, d) => bytes.length + uptoBulk d + 1
  | (_, d) => uptoBulk d + 1
 end
def uptoSmall : (H : Type) → List (DataW H) → Bool := fun _ ds => decide (uptoBulkAll ds ≤ 1048576)
def OpenSpec.upto (s : _root_.Go.ChangeSpec) : _root_.Go.OpenSpec := { _root_.Go.OpenSpec.ofChange s with cond := some uptoSmall }

/-- 'seedlinglaw14.SortNames', WHERE WHAT IT READS IS OF BULK AT MOST 1048576: true; the input reads as it did. -/
def sortNamesUptoRow : OpenClaim := { program := "ytlklmpjakeedcaagreatdoor", sum := "140b75d33b40dbe943595408e4c905ed8f8c901c6df1d93955012c1cab7a7377", func := "seedling/seedlinglaw14.SortNames", spec := "sortNames", unfollowed := true, recurses := true, named := ["seedling/sort.words"], apart := false, laid := [("seedling/sort.words", laid_seedling_sort_words)], narrowed := true }
def SortNamesUptoSaid : Prop := sortNamesUptoRow.holds Tryz.pinned (OpenSpec.upto sortNamesSpec)

/-- 'seedlinglaw14.SortOrder', WHERE WHAT IT READS IS OF BULK AT MOST 1048576: true; the input reads as it did. -/
def sortOrderUptoRow : OpenClaim := { program := "ytlklmpjakeedcaagreatdoor", sum := "140b75d33b40dbe943595408e4c905ed8f8c901c6df1d93955012c1cab7a7377", func := "seedling/seedlinglaw14.SortOrder", spec := "sortOrder", unfollowed := true, recurses := true, named := ["seedling/sort.words"], apart := false, laid := [("seedling/sort.words", laid_seedling_sort_words)], narrowed := true }
def SortOrderUptoSaid : Prop := sortOrderUptoRow.holds Tryz.pinned (OpenSpec.upto sortOrderSpec)

/-- 'seedlinglaw14.SortTells', WHERE WHAT IT READS IS OF BULK AT MOST 1048576: true; the input reads as it did. -/
def sortTellsUptoRow : OpenClaim := { program := "ytlklmpjakeedcaagreatdoor", sum := "140b75d33b40dbe943595408e4c905ed8f8c901c6df1d93955012c1cab7a7377", func := "seedling/seedlinglaw14.SortTells", spec := "sortTells", unfollowed := true, recurses := true, named := ["seedling/sort.words"], apart := false, laid := [("seedling/sort.words", laid_seedling_sort_words)], narrowed := true }
def SortTellsUptoSaid : Prop := sortTellsUptoRow.holds Tryz.pinned (OpenSpec.upto sortTellsSpec)

/-- 'seedlinglaw14.SortEnds', WHERE WHAT IT READS IS OF BULK AT MOST 1048576: true; the input reads as it did. -/
def sortEndsUptoRow : OpenClaim := { program := "ytlklmpjakeedcaagreatdoor", sum := "140b75d33b40dbe943595408e4c905ed8f8c901c6df1d93955012c1cab7a7377", func := "seedling/seedlinglaw14.SortEnds", spec := "sortEnds", unfollowed := true, recurses := true, named := ["seedling/sort.words"], apart := false, laid := [("seedling/sort.words", laid_seedling_sort_words)], narrowed := true }
def SortEndsUptoSaid : Prop := sortEndsUptoRow.holds Tryz.pinned (OpenSpec.upto sortEndsSpec)

/-- 'seedlinglaw14.SortAlone', WHERE WHAT IT READS IS OF BULK AT MOST 1048576: true; the input reads as it did. -/
def sortAloneUptoRow : OpenClaim := { program := "ytlklmpjakeedcaagreatdoor", sum := "140b75d33b40dbe943595408e4c905ed8f8c901c6df1d93955012c1cab7a7377", func := "seedling/seedlinglaw14.SortAlone", spec := "sortAlone", unfollowed := true, recurses := true, named := ["seedling/sort.words"], apart := false, laid := [("seedling/sort.words", laid_seedling_sort_words)], narrowed := true }
def SortAloneUptoSaid : Prop := sortAloneUptoRow.holds Tryz.pinned (OpenSpec.upto sortAloneSpec)

/-- 'seedlinglaw14.SortGoes', WHERE WHAT IT READS IS OF BULK AT MOST 1048576: true; the input reads as it did. -/
def sortGoesUptoRow : OpenClaim := { program := "ytlklmpjakeedcaagreatdoor", sum := "140b75d33b40dbe943595408e4c905ed8f8c901c6df1d93955012c1cab7a7377", func := "seedling/seedlinglaw14.SortGoes", spec := "sortGoes", unfollowed := true, recurses := true, named := ["seedling/sort.words"], apart := false, laid := [("seedling/sort.words", laid_seedling_sort_words)], narrowed := true }
def SortGoesUptoSaid : Prop := sortGoesUptoRow.holds Tryz.pinned (OpenSpec.upto sortGoesSpec)

end Rows
end Go.Proofs.YtlklmpjakeedcaaGreatDoor
