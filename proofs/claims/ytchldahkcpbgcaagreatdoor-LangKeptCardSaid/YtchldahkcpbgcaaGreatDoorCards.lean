/-
  DERIVED. GIVEN WITH THE SEED: THE CARDS: each row of YtchldahkcpbgcaaGreatDoorRows.lean that lists a variable, with what it lists TIED to the program's text (the seventh form; the later family's looks); each row that meets fmt, with fmt's text TOLD by the authors' own Lean function (tested against real Go, not proved from fmt's source: count such statements apart). THE CARD IS WHAT COUNTS. Prove the row's statement (the work); the ties are given (YtchldahkcpbgcaaGreatDoorTie.lean); close each card by the builder's one call (the guide's Derived/Test/ToyasCard.lean, 'card_holds'). Laid BY PROGRAM, IN A SANDBOX (cutbox-door.mjs). By AI agents, Wed Nov 11 2026. No macro, syntax, notation, axiom, sorry.
-/
import Derived.Test.YtchldahkcpbgcaaGreatDoorRows
import GoSem.ClaimSeven
namespace Go.Proofs.YtchldahkcpbgcaaGreatDoor
namespace Rows

/-- THE TIED CARD OF 'sleuthlaw01.LangTexts'. -/
def langTextsCard : Claim7 := { stood := { row := langTextsRow, standIns := [], harness := (true, "5ae1d6b492568c5a14a569e8ad4f4fc43480271af0f6879772de1d9494726be6"), looks := true }, kinds := [], alts := [], laidByText := true, laidKinds := [.data, .data, .data, .sentinel, .sentinel], laidTests := true, laidLooks := .later }
def LangTextsCardSaid : Prop := Claim7.holds Tryz.pinned (.plain (OpenSpec.ofChange langTextsSpec)) langTextsCard

/-- THE TIED CARD OF 'sleuthlaw01.LangStrings'. -/
def langStringsCard : Claim7 := { stood := { row := langStringsRow, standIns := [], harness := (true, "5ae1d6b492568c5a14a569e8ad4f4fc43480271af0f6879772de1d9494726be6"), looks := true }, kinds := [], alts := [], laidByText := true, laidKinds := [.data, .data, .data, .sentinel, .sentinel], laidTests := true, laidLooks := .later }
def LangStringsCardSaid : Prop := Claim7.holds Tryz.pinned (.plain (OpenSpec.ofChange langStringsSpec)) langStringsCard

/-- THE TIED CARD OF 'sleuthlaw01.LangSame'. -/
def langSameCard : Claim7 := { stood := { row := langSameRow, standIns := [], harness := (true, "5ae1d6b492568c5a14a569e8ad4f4fc43480271af0f6879772de1d9494726be6"), looks := true }, kinds := [], alts := [], laidByText := true, laidKinds := [.data, .data, .data, .sentinel, .sentinel], laidTests := true, laidLooks := .later }
def LangSameCardSaid : Prop := Claim7.holds Tryz.pinned (.plain (OpenSpec.ofChange langSameSpec)) langSameCard

/-- THE TIED CARD OF 'sleuthlaw01.LangAgain'. -/
def langAgainCard : Claim7 := { stood := { row := langAgainRow, standIns := [], harness := (true, "5ae1d6b492568c5a14a569e8ad4f4fc43480271af0f6879772de1d9494726be6"), looks := true }, kinds := [], alts := [], laidByText := true, laidKinds := [.data, .data, .data, .sentinel, .sentinel], laidTests := true, laidLooks := .later }
def LangAgainCardSaid : Prop := Claim7.holds Tryz.pinned (.plain (OpenSpec.ofChange langAgainSpec)) langAgainCard

/-- THE TIED CARD OF 'sleuthlaw01.LangCut'. -/
def langCutCard : Claim7 := { stood := { row := langCutRow, standIns := [], harness := (true, "5ae1d6b492568c5a14a569e8ad4f4fc43480271af0f6879772de1d9494726be6"), looks := true }, kinds := [], alts := [], laidByText := true, laidKinds := [.data, .data, .data, .sentinel, .sentinel], laidTests := true, laidLooks := .later }
def LangCutCardSaid : Prop := Claim7.holds Tryz.pinned (.plain (OpenSpec.ofChange langCutSpec)) langCutCard

/-- THE TIED CARD OF 'sleuthlaw01.LangEdits'. -/
def langEditsCard : Claim7 := { stood := { row := langEditsRow, standIns := [], harness := (true, "5ae1d6b492568c5a14a569e8ad4f4fc43480271af0f6879772de1d9494726be6"), looks := true }, kinds := [], alts := [], laidByText := true, laidKinds := [.data, .data, .data, .sentinel, .sentinel], laidTests := true, laidLooks := .later }
def LangEditsCardSaid : Prop := Claim7.holds Tryz.pinned (.plain (OpenSpec.ofChange langEditsSpec)) langEditsCard

/-- THE TIED CARD OF 'sleuthlaw01.LangNodes'. -/
def langNodesCard : Claim7 := { stood := { row := langNodesRow, standIns := [], harness := (true, "5ae1d6b492568c5a14a569e8ad4f4fc43480271af0f6879772de1d9494726be6"), looks := true }, kinds := [], alts := [], laidByText := true, laidKinds := [.data, .data, .data, .sentinel, .sentinel], laidTests := true, laidLooks := .later }
def LangNodesCardSaid : Prop := Claim7.holds Tryz.pinned (.plain (OpenSpec.ofChange langNodesSpec)) langNodesCard

/-- THE TIED CARD OF 'sleuthlaw01.LangKept'. -/
def langKeptCard : Claim7 := { stood := { row := langKeptRow, standIns := [], harness := (true, "5ae1d6b492568c5a14a569e8ad4f4fc43480271af0f6879772de1d9494726be6"), looks := true }, kinds := [], alts := [], laidByText := true, laidKinds := [.data, .data, .data, .sentinel, .sentinel], laidTests := true, laidLooks := .later }
def LangKeptCardSaid : Prop := Claim7.holds Tryz.pinned (.plain (OpenSpec.ofChange langKeptSpec)) langKeptCard

/-- THE TIED CARD OF 'sleuthlaw01.LangBack'. -/
def langBackCard : Claim7 := { stood := { row := langBackRow, standIns := [], harness := (true, "5ae1d6b492568c5a14a569e8ad4f4fc43480271af0f6879772de1d9494726be6"), looks := true }, kinds := [], alts := [], laidByText := true, laidKinds := [.data, .data, .data, .sentinel, .sentinel], laidTests := true, laidLooks := .later }
def LangBackCardSaid : Prop := Claim7.holds Tryz.pinned (.plain (OpenSpec.ofChange langBackSpec)) langBackCard

/-- THE TIED CARD OF 'sleuthlaw01.LangAny'. -/
def langAnyCard : Claim7 := { stood := { row := langAnyRow, standIns := [], harness := (true, "5ae1d6b492568c5a14a569e8ad4f4fc43480271af0f6879772de1d9494726be6"), looks := true }, kinds := [], alts := [], laidByText := true, laidKinds := [.data, .data, .data, .sentinel, .sentinel], laidTests := true, laidLooks := .later }
def LangAnyCardSaid : Prop := Claim7.holds Tryz.pinned (.plain (OpenSpec.ofChange langAnySpec)) langAnyCard

/-- THE TIED CARD OF 'sleuthlaw01.LangPlaces'. -/
def langPlacesCard : Claim7 := { stood := { row := langPlacesRow, standIns := [], harness := (true, "5ae1d6b492568c5a14a569e8ad4f4fc43480271af0f6879772de1d9494726be6"), looks := true }, kinds := [], alts := [], laidByText := true, laidKinds := [.data, .data, .data, .sentinel, .sentinel], laidTests := true, laidLooks := .later }
def LangPlacesCardSaid : Prop := Claim7.holds Tryz.pinned (.plain (OpenSpec.ofChange langPlacesSpec)) langPlacesCard

/-- THE TIED CARD OF 'sleuthlaw01.LangVisible'. -/
def langVisibleCard : Claim7 := { stood := { row := langVisibleRow, standIns := [], harness := (true, "5ae1d6b492568c5a14a569e8ad4f4fc43480271af0f6879772de1d9494726be6"), looks := true }, kinds := [], alts := [], laidByText := true, laidKinds := [.data, .data, .data, .sentinel, .sentinel], laidTests := true, laidLooks := .later }
def LangVisibleCardSaid : Prop := Claim7.holds Tryz.pinned (.plain (OpenSpec.ofChange langVisibleSpec)) langVisibleCard

/-- THE TIED CARD OF 'sleuthlaw01.LangKnown'. -/
def langKnownCard : Claim7 := { stood := { row := langKnownRow, standIns := [], harness := (true, "5ae1d6b492568c5a14a569e8ad4f4fc43480271af0f6879772de1d9494726be6"), looks := true }, kinds := [], alts := [], laidByText := true, laidKinds := [.data, .data, .data, .sentinel, .sentinel], laidTests := true, laidLooks := .later }
def LangKnownCardSaid : Prop := Claim7.holds Tryz.pinned (.plain (OpenSpec.ofChange langKnownSpec)) langKnownCard

/-- THE SECOND FORM's CARD OF 'sleuthlaw01.LangTexts'. -/
def langTextsUptoCard : Claim7 := { stood := { row := langTextsUptoRow, standIns := [], harness := (true, "5ae1d6b492568c5a14a569e8ad4f4fc43480271af0f6879772de1d9494726be6"), looks := true }, kinds := [], alts := [], laidByText := true, laidKinds := [.data, .data, .data, .sentinel, .sentinel], laidTests := true, laidLooks := .later }
def LangTextsUptoCardSaid : Prop := Claim7.holds Tryz.pinned (.plain (OpenSpec.upto langTextsSpec)) langTextsUptoCard

/-- THE SECOND FORM's CARD OF 'sleuthlaw01.LangStrings'. -/
def langStringsUptoCard : Claim7 := { stood := { row := langStringsUptoRow, standIns := [], harness := (true, "5ae1d6b492568c5a14a569e8ad4f4fc43480271af0f6879772de1d9494726be6"), looks := true }, kinds := [], alts := [], laidByText := true, laidKinds := [.data, .data, .data, .sentinel, .sentinel], laidTests := true, laidLooks := .later }
def LangStringsUptoCardSaid : Prop := Claim7.holds Tryz.pinned (.plain (OpenSpec.upto langStringsSpec)) langStringsUptoCard

/-- THE SECOND FORM's CARD OF 'sleuthlaw01.LangSame'. -/
def langSameUptoCard : Claim7 := { stood := { row := langSameUptoRow, standIns := [], harness := (true, "5ae1d6b492568c5a14a569e8ad4f4fc43480271af0f6879772de1d9494726be6"), looks := true }, kinds := [], alts := [], laidByText := true, laidKinds := [.data, .data, .data, .sentinel, .sentinel], laidTests := true, laidLooks := .later }
def LangSameUptoCardSaid : Prop := Claim7.holds Tryz.pinned (.plain (OpenSpec.upto langSameSpec)) langSameUptoCard

/-- THE SECOND FORM's CARD OF 'sleuthlaw01.LangAgain'. -/
def langAgainUptoCard : Claim7 := { stood := { row := langAgainUptoRow, standIns := [], harness := (true, "5ae1d6b492568c5a14a569e8ad4f4fc43480271af0f6879772de1d9494726be6"), looks := true }, kinds := [], alts := [], laidByText := true, laidKinds := [.data, .data, .data, .sentinel, .sentinel], laidTests := true, laidLooks := .later }
def LangAgainUptoCardSaid : Prop := Claim7.holds Tryz.pinned (.plain (OpenSpec.upto langAgainSpec)) langAgainUptoCard

/-- THE SECOND FORM's CARD OF 'sleuthlaw01.LangCut'. -/
def langCutUptoCard : Claim7 := { stood := { row := langCutUptoRow, standIns := [], harness := (true, "5ae1d6b492568c5a14a569e8ad4f4fc43480271af0f6879772de1d9494726be6"), looks := true }, kinds := [], alts := [], laidByText := true, laidKinds := [.data, .data, .data, .sentinel, .sentinel], laidTests := true, laidLooks := .later }
def LangCutUptoCardSaid : Prop := Claim7.holds Tryz.pinned (.plain (OpenSpec.upto langCutSpec)) langCutUptoCard

/-- THE SECOND FORM's CARD OF 'sleuthlaw01.LangEdits'. -/
def langEditsUptoCard : Claim7 := { stood := { row := langEditsUptoRow, standIns := [], harness := (true, "5ae1d6b492568c5a14a569e8ad4f4fc43480271af0f6879772de1d9494726be6"), looks := true }, kinds := [], alts := [], laidByText := true, laidKinds := [.data, .data, .data, .sentinel, .sentinel], laidTests := true, laidLooks := .later }
def LangEditsUptoCardSaid : Prop := Claim7.holds Tryz.pinned (.plain (OpenSpec.upto langEditsSpec)) langEditsUptoCard

/-- THE SECOND FORM's CARD OF 'sleuthlaw01.LangNodes'. -/
def langNodesUptoCard : Claim7 := { stood := { row := langNodesUptoRow, standIns := [], harness := (true, "5ae1d6b492568c5a14a569e8ad4f4fc43480271af0f6879772de1d9494726be6"), looks := true }, kinds := [], alts := [], laidByText := true, laidKinds := [.data, .data, .data, .sentinel, .sentinel], laidTests := true, laidLooks := .later }
def LangNodesUptoCardSaid : Prop := Claim7.holds Tryz.pinned (.plain (OpenSpec.upto langNodesSpec)) langNodesUptoCard

/-- THE SECOND FORM's CARD OF 'sleuthlaw01.LangKept'. -/
def langKeptUptoCard : Claim7 := { stood := { row := langKeptUptoRow, standIns := [], harness := (true, "5ae1d6b492568c5a14a569e8ad4f4fc43480271af0f6879772de1d9494726be6"), looks := true }, kinds := [], alts := [], laidByText := true, laidKinds := [.data, .data, .data, .sentinel, .sentinel], laidTests := true, laidLooks := .later }
def LangKeptUptoCardSaid : Prop := Claim7.holds Tryz.pinned (.plain (OpenSpec.upto langKeptSpec)) langKeptUptoCard

/-- THE SECOND FORM's CARD OF 'sleuthlaw01.LangBack'. -/
def langBackUptoCard : Claim7 := { stood := { row := langBackUptoRow, standIns := [], harness := (true, "5ae1d6b492568c5a14a569e8ad4f4fc43480271af0f6879772de1d9494726be6"), looks := true }, kinds := [], alts := [], laidByText := true, laidKinds := [.data, .data, .data, .sentinel, .sentinel], laidTests := true, laidLooks := .later }
def LangBackUptoCardSaid : Prop := Claim7.holds Tryz.pinned (.plain (OpenSpec.upto langBackSpec)) langBackUptoCard

/-- THE SECOND FORM's CARD OF 'sleuthlaw01.LangAny'. -/
def langAnyUptoCard : Claim7 := { stood := { row := langAnyUptoRow, standIns := [], harness := (true, "5ae1d6b492568c5a14a569e8ad4f4fc43480271af0f6879772de1d9494726be6"), looks := true }, kinds := [], alts := [], laidByText := true, laidKinds := [.data, .data, .data, .sentinel, .sentinel], laidTests := true, laidLooks := .later }
def LangAnyUptoCardSaid : Prop := Claim7.holds Tryz.pinned (.plain (OpenSpec.upto langAnySpec)) langAnyUptoCard

/-- THE SECOND FORM's CARD OF 'sleuthlaw01.LangPlaces'. -/
def langPlacesUptoCard : Claim7 := { stood := { row := langPlacesUptoRow, standIns := [], harness := (true, "5ae1d6b492568c5a14a569e8ad4f4fc43480271af0f6879772de1d9494726be6"), looks := true }, kinds := [], alts := [], laidByText := true, laidKinds := [.data, .data, .data, .sentinel, .sentinel], laidTests := true, laidLooks := .later }
def LangPlacesUptoCardSaid : Prop := Claim7.holds Tryz.pinned (.plain (OpenSpec.upto langPlacesSpec)) langPlacesUptoCard

/-- THE SECOND FORM's CARD OF 'sleuthlaw01.LangVisible'. -/
def langVisibleUptoCard : Claim7 := { stood := { row := langVisibleUptoRow, standIns := [], harness := (true, "5ae1d6b492568c5a14a569e8ad4f4fc43480271af0f6879772de1d9494726be6"), looks := true }, kinds := [], alts := [], laidByText := true, laidKinds := [.data, .data, .data, .sentinel, .sentinel], laidTests := true, laidLooks := .later }
def LangVisibleUptoCardSaid : Prop := Claim7.holds Tryz.pinned (.plain (OpenSpec.upto langVisibleSpec)) langVisibleUptoCard

/-- THE SECOND FORM's CARD OF 'sleuthlaw01.LangKnown'. -/
def langKnownUptoCard : Claim7 := { stood := { row := langKnownUptoRow, standIns := [], harness := (true, "5ae1d6b492568c5a14a569e8ad4f4fc43480271af0f6879772de1d9494726be6"), looks := true }, kinds := [], alts := [], laidByText := true, laidKinds := [.data, .data, .data, .sentinel, .sentinel], laidTests := true, laidLooks := .later }
def LangKnownUptoCardSaid : Prop := Claim7.holds Tryz.pinned (.plain (OpenSpec.upto langKnownSpec)) langKnownUptoCard
end Rows
end Go.Proofs.YtchldahkcpbgcaaGreatDoor
