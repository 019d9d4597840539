/-
  DERIVED. GIVEN WITH THE SEED: THE CARDS: each row of YtlklmpjakeedcaaGreatDoorRows.lean that lists a variable, with what it lists TIED to the program's text (the seventh form; the later family's looks); each row that meets fmt, with fmt's text TOLD by the authors' own Lean function (tested against real Go, not proved from fmt's source: count such statements apart). THE CARD IS WHAT COUNTS. Prove the row's statement (the work); the ties are given (YtlklmpjakeedcaaGreatDoorTie.lean); close each card by the builder's one call (the guide's Derived/Test/ToyasCard.lean, 'card_holds'). Laid BY PROGRAM, IN A SANDBOX (cutbox-door.mjs). By AI agents, Wed Nov 11 2026. No macro, syntax, notation, axiom, sorry.
-/
import Derived.Test.YtlklmpjakeedcaaGreatDoorRows
import GoSem.ClaimSeven
namespace Go.Proofs.YtlklmpjakeedcaaGreatDoor
namespace Rows

/-- THE TIED CARD OF 'seedlinglaw14.SortNames'. -/
def sortNamesCard : Claim7 := { stood := { row := sortNamesRow, standIns := [], harness := (true, "b4c4eaa4588b6a987805138dffed7abd57c0b3b5ca1f3714d734eb595025d637"), looks := false }, kinds := [], alts := [], laidByText := true, laidKinds := [.data], laidTests := true, laidLooks := .later }
def SortNamesCardSaid : Prop := Claim7.holds Tryz.pinned (.plain (OpenSpec.ofChange sortNamesSpec)) sortNamesCard

/-- THE TIED CARD OF 'seedlinglaw14.SortOrder'. -/
def sortOrderCard : Claim7 := { stood := { row := sortOrderRow, standIns := [], harness := (true, "b4c4eaa4588b6a987805138dffed7abd57c0b3b5ca1f3714d734eb595025d637"), looks := false }, kinds := [], alts := [], laidByText := true, laidKinds := [.data], laidTests := true, laidLooks := .later }
def SortOrderCardSaid : Prop := Claim7.holds Tryz.pinned (.plain (OpenSpec.ofChange sortOrderSpec)) sortOrderCard

/-- THE TIED CARD OF 'seedlinglaw14.SortTells'. -/
def sortTellsCard : Claim7 := { stood := { row := sortTellsRow, standIns := [], harness := (true, "b4c4eaa4588b6a987805138dffed7abd57c0b3b5ca1f3714d734eb595025d637"), looks := false }, kinds := [], alts := [], laidByText := true, laidKinds := [.data], laidTests := true, laidLooks := .later }
def SortTellsCardSaid : Prop := Claim7.holds Tryz.pinned (.plain (OpenSpec.ofChange sortTellsSpec)) sortTellsCard

/-- THE TIED CARD OF 'seedlinglaw14.SortEnds'. -/
def sortEndsCard : Claim7 := { stood := { row := sortEndsRow, standIns := [], harness := (true, "b4c4eaa4588b6a987805138dffed7abd57c0b3b5ca1f3714d734eb595025d637"), looks := false }, kinds := [], alts := [], laidByText := true, laidKinds := [.data], laidTests := true, laidLooks := .later }
def SortEndsCardSaid : Prop := Claim7.holds Tryz.pinned (.plain (OpenSpec.ofChange sortEndsSpec)) sortEndsCard

/-- THE TIED CARD OF 'seedlinglaw14.SortAlone'. -/
def sortAloneCard : Claim7 := { stood := { row := sortAloneRow, standIns := [], harness := (true, "b4c4eaa4588b6a987805138dffed7abd57c0b3b5ca1f3714d734eb595025d637"), looks := false }, kinds := [], alts := [], laidByText := true, laidKinds := [.data], laidTests := true, laidLooks := .later }
def SortAloneCardSaid : Prop := Claim7.holds Tryz.pinned (.plain (OpenSpec.ofChange sortAloneSpec)) sortAloneCard

/-- THE TIED CARD OF 'seedlinglaw14.SortGoes'. -/
def sortGoesCard : Claim7 := { stood := { row := sortGoesRow, standIns := [], harness := (true, "b4c4eaa4588b6a987805138dffed7abd57c0b3b5ca1f3714d734eb595025d637"), looks := false }, kinds := [], alts := [], laidByText := true, laidKinds := [.data], laidTests := true, laidLooks := .later }
def SortGoesCardSaid : Prop := Claim7.holds Tryz.pinned (.plain (OpenSpec.ofChange sortGoesSpec)) sortGoesCard

/-- THE SECOND FORM's CARD OF 'seedlinglaw14.SortNames'. -/
def sortNamesUptoCard : Claim7 := { stood := { row := sortNamesUptoRow, standIns := [], harness := (true, "b4c4eaa4588b6a987805138dffed7abd57c0b3b5ca1f3714d734eb595025d637"), looks := false }, kinds := [], alts := [], laidByText := true, laidKinds := [.data], laidTests := true, laidLooks := .later }
def SortNamesUptoCardSaid : Prop := Claim7.holds Tryz.pinned (.plain (OpenSpec.upto sortNamesSpec)) sortNamesUptoCard

/-- THE SECOND FORM's CARD OF 'seedlinglaw14.SortOrder'. -/
def sortOrderUptoCard : Claim7 := { stood := { row := sortOrderUptoRow, standIns := [], harness := (true, "b4c4eaa4588b6a987805138dffed7abd57c0b3b5ca1f3714d734eb595025d637"), looks := false }, kinds := [], alts := [], laidByText := true, laidKinds := [.data], laidTests := true, laidLooks := .later }
def SortOrderUptoCardSaid : Prop := Claim7.holds Tryz.pinned (.plain (OpenSpec.upto sortOrderSpec)) sortOrderUptoCard

/-- THE SECOND FORM's CARD OF 'seedlinglaw14.SortTells'. -/
def sortTellsUptoCard : Claim7 := { stood := { row := sortTellsUptoRow, standIns := [], harness := (true, "b4c4eaa4588b6a987805138dffed7abd57c0b3b5ca1f3714d734eb595025d637"), looks := false }, kinds := [], alts := [], laidByText := true, laidKinds := [.data], laidTests := true, laidLooks := .later }
def SortTellsUptoCardSaid : Prop := Claim7.holds Tryz.pinned (.plain (OpenSpec.upto sortTellsSpec)) sortTellsUptoCard

/-- THE SECOND FORM's CARD OF 'seedlinglaw14.SortEnds'. -/
def sortEndsUptoCard : Claim7 := { stood := { row := sortEndsUptoRow, standIns := [], harness := (true, "b4c4eaa4588b6a987805138dffed7abd57c0b3b5ca1f3714d734eb595025d637"), looks := false }, kinds := [], alts := [], laidByText := true, laidKinds := [.data], laidTests := true, laidLooks := .later }
def SortEndsUptoCardSaid : Prop := Claim7.holds Tryz.pinned (.plain (OpenSpec.upto sortEndsSpec)) sortEndsUptoCard

/-- THE SECOND FORM's CARD OF 'seedlinglaw14.SortAlone'. -/
def sortAloneUptoCard : Claim7 := { stood := { row := sortAloneUptoRow, standIns := [], harness := (true, "b4c4eaa4588b6a987805138dffed7abd57c0b3b5ca1f3714d734eb595025d637"), looks := false }, kinds := [], alts := [], laidByText := true, laidKinds := [.data], laidTests := true, laidLooks := .later }
def SortAloneUptoCardSaid : Prop := Claim7.holds Tryz.pinned (.plain (OpenSpec.upto sortAloneSpec)) sortAloneUptoCard

/-- THE SECOND FORM's CARD OF 'seedlinglaw14.SortGoes'. -/
def sortGoesUptoCard : Claim7 := { stood := { row := sortGoesUptoRow, standIns := [], harness := (true, "b4c4eaa4588b6a987805138dffed7abd57c0b3b5ca1f3714d734eb595025d637"), looks := false }, kinds := [], alts := [], laidByText := true, laidKinds := [.data], laidTests := true, laidLooks := .later }
def SortGoesUptoCardSaid : Prop := Claim7.holds Tryz.pinned (.plain (OpenSpec.upto sortGoesSpec)) sortGoesUptoCard
end Rows
end Go.Proofs.YtlklmpjakeedcaaGreatDoor
