/-
  DERIVED. GIVEN WITH THE SEED: THE CARDS: each row of YtjpbmbonccenfaaDoorRows.lean that lists a variable, with what it lists TIED to the program's text (the seventh form; the later family's looks); each row that meets fmt, with fmt's text TOLD by the authors' own Lean function (tested against real Go, not proved from fmt's source: count such statements apart). THE CARD IS WHAT COUNTS. Prove the row's statement (the work); the ties are given (YtjpbmbonccenfaaDoorTie.lean); close each card by the builder's one call (the guide's Derived/Test/ToyasCard.lean, 'card_holds'). Laid BY PROGRAM, IN A SANDBOX (cutbox-door.mjs). By AI agents, Wed Nov 11 2026. No macro, syntax, notation, axiom, sorry.
-/
import Derived.Test.YtjpbmbonccenfaaDoorRows
import GoSem.ClaimSeven
namespace Go.Proofs.YtjpbmbonccenfaaDoor
namespace Rows

/-- THE TIED CARD OF 'sleuthlaw06.ReduceChunks'. -/
def reduceChunksCard : Claim7 := { stood := { row := reduceChunksRow, standIns := [], harness := (true, "8ec1025cd818dc6136ae68a66461db4792e6c3c075412e7bf48e943d4111971b"), looks := true }, kinds := [], alts := [], laidByText := true, laidKinds := [.data, .data, .data], laidTests := true, laidLooks := .later }
def ReduceChunksCardSaid : Prop := Claim7.holds Tryd.pinned (.plain (OpenSpec.ofChange reduceChunksSpec)) reduceChunksCard

/-- THE TIED CARD OF 'sleuthlaw06.ReduceRemovable'. -/
def reduceRemovableCard : Claim7 := { stood := { row := reduceRemovableRow, standIns := [], harness := (true, "8ec1025cd818dc6136ae68a66461db4792e6c3c075412e7bf48e943d4111971b"), looks := true }, kinds := [], alts := [], laidByText := true, laidKinds := [.data, .data, .data], laidTests := true, laidLooks := .later }
def ReduceRemovableCardSaid : Prop := Claim7.holds Tryd.pinned (.plain (OpenSpec.ofChange reduceRemovableSpec)) reduceRemovableCard

/-- THE TIED CARD OF 'sleuthlaw06.ReduceSets'. -/
def reduceSetsCard : Claim7 := { stood := { row := reduceSetsRow, standIns := [], harness := (true, "8ec1025cd818dc6136ae68a66461db4792e6c3c075412e7bf48e943d4111971b"), looks := true }, kinds := [], alts := [], laidByText := true, laidKinds := [.data, .data, .data], laidTests := true, laidLooks := .later }
def ReduceSetsCardSaid : Prop := Claim7.holds Tryd.pinned (.plain (OpenSpec.ofChange reduceSetsSpec)) reduceSetsCard

/-- THE TIED CARD OF 'sleuthlaw06.ReduceScheduleMinimal'. -/
def reduceScheduleMinimalCard : Claim7 := { stood := { row := reduceScheduleMinimalRow, standIns := [], harness := (true, "8ec1025cd818dc6136ae68a66461db4792e6c3c075412e7bf48e943d4111971b"), looks := true }, kinds := [], alts := [], laidByText := true, laidKinds := [.data, .data, .data], laidTests := true, laidLooks := .later }
def ReduceScheduleMinimalCardSaid : Prop := Claim7.holds Tryd.pinned (.plain (OpenSpec.ofChange reduceScheduleMinimalSpec)) reduceScheduleMinimalCard

/-- THE TIED CARD OF 'sleuthlaw06.ReduceChangesMinimal'. -/
def reduceChangesMinimalCard : Claim7 := { stood := { row := reduceChangesMinimalRow, standIns := [], harness := (true, "8ec1025cd818dc6136ae68a66461db4792e6c3c075412e7bf48e943d4111971b"), looks := true }, kinds := [], alts := [], laidByText := true, laidKinds := [.data, .data, .data], laidTests := true, laidLooks := .later }
def ReduceChangesMinimalCardSaid : Prop := Claim7.holds Tryd.pinned (.plain (OpenSpec.ofChange reduceChangesMinimalSpec)) reduceChangesMinimalCard

/-- THE TIED CARD OF 'sleuthlaw06.ReduceSchedules'. -/
def reduceSchedulesCard : Claim7 := { stood := { row := reduceSchedulesRow, standIns := [], harness := (true, "8ec1025cd818dc6136ae68a66461db4792e6c3c075412e7bf48e943d4111971b"), looks := true }, kinds := [], alts := [], laidByText := true, laidKinds := [.data, .data, .data], laidTests := true, laidLooks := .later }
def ReduceSchedulesCardSaid : Prop := Claim7.holds Tryd.pinned (.plain (OpenSpec.ofChange reduceSchedulesSpec)) reduceSchedulesCard

/-- THE TIED CARD OF 'sleuthlaw06.ReduceNeeds'. -/
def reduceNeedsCard : Claim7 := { stood := { row := reduceNeedsRow, standIns := [], harness := (true, "8ec1025cd818dc6136ae68a66461db4792e6c3c075412e7bf48e943d4111971b"), looks := true }, kinds := [], alts := [], laidByText := true, laidKinds := [.data, .data, .data], laidTests := true, laidLooks := .later }
def ReduceNeedsCardSaid : Prop := Claim7.holds Tryd.pinned (.plain (OpenSpec.ofChange reduceNeedsSpec)) reduceNeedsCard

/-- THE TIED CARD OF 'sleuthlaw06.ReduceMinimal'. -/
def reduceMinimalCard : Claim7 := { stood := { row := reduceMinimalRow, standIns := [], harness := (true, "8ec1025cd818dc6136ae68a66461db4792e6c3c075412e7bf48e943d4111971b"), looks := true }, kinds := [], alts := [], laidByText := true, laidKinds := [.data, .data, .data], laidTests := true, laidLooks := .later }
def ReduceMinimalCardSaid : Prop := Claim7.holds Tryd.pinned (.plain (OpenSpec.ofChange reduceMinimalSpec)) reduceMinimalCard

/-- THE TIED CARD OF 'sleuthlaw06.ReduceUnique'. -/
def reduceUniqueCard : Claim7 := { stood := { row := reduceUniqueRow, standIns := [], harness := (true, "8ec1025cd818dc6136ae68a66461db4792e6c3c075412e7bf48e943d4111971b"), looks := true }, kinds := [], alts := [], laidByText := true, laidKinds := [.data, .data, .data], laidTests := true, laidLooks := .later }
def ReduceUniqueCardSaid : Prop := Claim7.holds Tryd.pinned (.plain (OpenSpec.ofChange reduceUniqueSpec)) reduceUniqueCard

/-- THE TIED CARD OF 'sleuthlaw06.ReduceOnce'. -/
def reduceOnceCard : Claim7 := { stood := { row := reduceOnceRow, standIns := [], harness := (true, "8ec1025cd818dc6136ae68a66461db4792e6c3c075412e7bf48e943d4111971b"), looks := true }, kinds := [], alts := [], laidByText := true, laidKinds := [.data, .data, .data], laidTests := true, laidLooks := .later }
def ReduceOnceCardSaid : Prop := Claim7.holds Tryd.pinned (.plain (OpenSpec.ofChange reduceOnceSpec)) reduceOnceCard

/-- THE TIED CARD OF 'sleuthlaw06.ReduceIsolated'. -/
def reduceIsolatedCard : Claim7 := { stood := { row := reduceIsolatedRow, standIns := [], harness := (true, "8ec1025cd818dc6136ae68a66461db4792e6c3c075412e7bf48e943d4111971b"), looks := true }, kinds := [], alts := [], laidByText := true, laidKinds := [.data, .data, .data], laidTests := true, laidLooks := .later }
def ReduceIsolatedCardSaid : Prop := Claim7.holds Tryd.pinned (.plain (OpenSpec.ofChange reduceIsolatedSpec)) reduceIsolatedCard

/-- THE TIED CARD OF 'sleuthlaw06.ReduceSurplus'. -/
def reduceSurplusCard : Claim7 := { stood := { row := reduceSurplusRow, standIns := [], harness := (true, "8ec1025cd818dc6136ae68a66461db4792e6c3c075412e7bf48e943d4111971b"), looks := true }, kinds := [], alts := [], laidByText := true, laidKinds := [.data, .data, .data], laidTests := true, laidLooks := .later }
def ReduceSurplusCardSaid : Prop := Claim7.holds Tryd.pinned (.plain (OpenSpec.ofChange reduceSurplusSpec)) reduceSurplusCard

/-- THE SECOND FORM's CARD OF 'sleuthlaw06.ReduceChunks'. -/
def reduceChunksUptoCard : Claim7 := { stood := { row := reduceChunksUptoRow, standIns := [], harness := (true, "8ec1025cd818dc6136ae68a66461db4792e6c3c075412e7bf48e943d4111971b"), looks := true }, kinds := [], alts := [], laidByText := true, laidKinds := [.data, .data, .data], laidTests := true, laidLooks := .later }
def ReduceChunksUptoCardSaid : Prop := Claim7.holds Tryd.pinned (.plain (OpenSpec.upto reduceChunksSpec)) reduceChunksUptoCard

/-- THE SECOND FORM's CARD OF 'sleuthlaw06.ReduceRemovable'. -/
def reduceRemovableUptoCard : Claim7 := { stood := { row := reduceRemovableUptoRow, standIns := [], harness := (true, "8ec1025cd818dc6136ae68a66461db4792e6c3c075412e7bf48e943d4111971b"), looks := true }, kinds := [], alts := [], laidByText := true, laidKinds := [.data, .data, .data], laidTests := true, laidLooks := .later }
def ReduceRemovableUptoCardSaid : Prop := Claim7.holds Tryd.pinned (.plain (OpenSpec.upto reduceRemovableSpec)) reduceRemovableUptoCard

/-- THE SECOND FORM's CARD OF 'sleuthlaw06.ReduceSets'. -/
def reduceSetsUptoCard : Claim7 := { stood := { row := reduceSetsUptoRow, standIns := [], harness := (true, "8ec1025cd818dc6136ae68a66461db4792e6c3c075412e7bf48e943d4111971b"), looks := true }, kinds := [], alts := [], laidByText := true, laidKinds := [.data, .data, .data], laidTests := true, laidLooks := .later }
def ReduceSetsUptoCardSaid : Prop := Claim7.holds Tryd.pinned (.plain (OpenSpec.upto reduceSetsSpec)) reduceSetsUptoCard

/-- THE SECOND FORM's CARD OF 'sleuthlaw06.ReduceScheduleMinimal'. -/
def reduceScheduleMinimalUptoCard : Claim7 := { stood := { row := reduceScheduleMinimalUptoRow, standIns := [], harness := (true, "8ec1025cd818dc6136ae68a66461db4792e6c3c075412e7bf48e943d4111971b"), looks := true }, kinds := [], alts := [], laidByText := true, laidKinds := [.data, .data, .data], laidTests := true, laidLooks := .later }
def ReduceScheduleMinimalUptoCardSaid : Prop := Claim7.holds Tryd.pinned (.plain (OpenSpec.upto reduceScheduleMinimalSpec)) reduceScheduleMinimalUptoCard

/-- THE SECOND FORM's CARD OF 'sleuthlaw06.ReduceChangesMinimal'. -/
def reduceChangesMinimalUptoCard : Claim7 := { stood := { row := reduceChangesMinimalUptoRow, standIns := [], harness := (true, "8ec1025cd818dc6136ae68a66461db4792e6c3c075412e7bf48e943d4111971b"), looks := true }, kinds := [], alts := [], laidByText := true, laidKinds := [.data, .data, .data], laidTests := true, laidLooks := .later }
def ReduceChangesMinimalUptoCardSaid : Prop := Claim7.holds Tryd.pinned (.plain (OpenSpec.upto reduceChangesMinimalSpec)) reduceChangesMinimalUptoCard

/-- THE SECOND FORM's CARD OF 'sleuthlaw06.ReduceSchedules'. -/
def reduceSchedulesUptoCard : Claim7 := { stood := { row := reduceSchedulesUptoRow, standIns := [], harness := (true, "8ec1025cd818dc6136ae68a66461db4792e6c3c075412e7bf48e943d4111971b"), looks := true }, kinds := [], alts := [], laidByText := true, laidKinds := [.data, .data, .data], laidTests := true, laidLooks := .later }
def ReduceSchedulesUptoCardSaid : Prop := Claim7.holds Tryd.pinned (.plain (OpenSpec.upto reduceSchedulesSpec)) reduceSchedulesUptoCard

/-- THE SECOND FORM's CARD OF 'sleuthlaw06.ReduceNeeds'. -/
def reduceNeedsUptoCard : Claim7 := { stood := { row := reduceNeedsUptoRow, standIns := [], harness := (true, "8ec1025cd818dc6136ae68a66461db4792e6c3c075412e7bf48e943d4111971b"), looks := true }, kinds := [], alts := [], laidByText := true, laidKinds := [.data, .data, .data], laidTests := true, laidLooks := .later }
def ReduceNeedsUptoCardSaid : Prop := Claim7.holds Tryd.pinned (.plain (OpenSpec.upto reduceNeedsSpec)) reduceNeedsUptoCard

/-- THE SECOND FORM's CARD OF 'sleuthlaw06.ReduceMinimal'. -/
def reduceMinimalUptoCard : Claim7 := { stood := { row := reduceMinimalUptoRow, standIns := [], harness := (true, "8ec1025cd818dc6136ae68a66461db4792e6c3c075412e7bf48e943d4111971b"), looks := true }, kinds := [], alts := [], laidByText := true, laidKinds := [.data, .data, .data], laidTests := true, laidLooks := .later }
def ReduceMinimalUptoCardSaid : Prop := Claim7.holds Tryd.pinned (.plain (OpenSpec.upto reduceMinimalSpec)) reduceMinimalUptoCard

/-- THE SECOND FORM's CARD OF 'sleuthlaw06.ReduceUnique'. -/
def reduceUniqueUptoCard : Claim7 := { stood := { row := reduceUniqueUptoRow, standIns := [], harness := (true, "8ec1025cd818dc6136ae68a66461db4792e6c3c075412e7bf48e943d4111971b"), looks := true }, kinds := [], alts := [], laidByText := true, laidKinds := [.data, .data, .data], laidTests := true, laidLooks := .later }
def ReduceUniqueUptoCardSaid : Prop := Claim7.holds Tryd.pinned (.plain (OpenSpec.upto reduceUniqueSpec)) reduceUniqueUptoCard

/-- THE SECOND FORM's CARD OF 'sleuthlaw06.ReduceOnce'. -/
def reduceOnceUptoCard : Claim7 := { stood := { row := reduceOnceUptoRow, standIns := [], harness := (true, "8ec1025cd818dc6136ae68a66461db4792e6c3c075412e7bf48e943d4111971b"), looks := true }, kinds := [], alts := [], laidByText := true, laidKinds := [.data, .data, .data], laidTests := true, laidLooks := .later }
def ReduceOnceUptoCardSaid : Prop := Claim7.holds Tryd.pinned (.plain (OpenSpec.upto reduceOnceSpec)) reduceOnceUptoCard

/-- THE SECOND FORM's CARD OF 'sleuthlaw06.ReduceIsolated'. -/
def reduceIsolatedUptoCard : Claim7 := { stood := { row := reduceIsolatedUptoRow, standIns := [], harness := (true, "8ec1025cd818dc6136ae68a66461db4792e6c3c075412e7bf48e943d4111971b"), looks := true }, kinds := [], alts := [], laidByText := true, laidKinds := [.data, .data, .data], laidTests := true, laidLooks := .later }
def ReduceIsolatedUptoCardSaid : Prop := Claim7.holds Tryd.pinned (.plain (OpenSpec.upto reduceIsolatedSpec)) reduceIsolatedUptoCard

/-- THE SECOND FORM's CARD OF 'sleuthlaw06.ReduceSurplus'. -/
def reduceSurplusUptoCard : Claim7 := { stood := { row := reduceSurplusUptoRow, standIns := [], harness := (true, "8ec1025cd818dc6136ae68a66461db4792e6c3c075412e7bf48e943d4111971b"), looks := true }, kinds := [], alts := [], laidByText := true, laidKinds := [.data, .data, .data], laidTests := true, laidLooks := .later }
def ReduceSurplusUptoCardSaid : Prop := Claim7.holds Tryd.pinned (.plain (OpenSpec.upto reduceSurplusSpec)) reduceSurplusUptoCard
end Rows
end Go.Proofs.YtjpbmbonccenfaaDoor
