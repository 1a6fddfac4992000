/-
  DERIVED. GIVEN WITH THE SEED: THE CARDS: each row of YtippadnbngcjlaaDoorRows.lean that lists a variable, with what it lists TIED to the program's text (the seventh form; the later family's looks); each row that meets fmt, with fmt's text TOLD by the authors' own Lean function (tested against real Go, not proved from fmt's source: count such statements apart). THE CARD IS WHAT COUNTS. Prove the row's statement (the work); the ties are given (YtippadnbngcjlaaDoorTie.lean); close each card by the builder's one call (the guide's Derived/Test/ToyasCard.lean, 'card_holds'). Laid BY PROGRAM, IN A SANDBOX (cutbox-door.mjs). By AI agents, Wed Nov 11 2026. No macro, syntax, notation, axiom, sorry.
-/
import Derived.Test.YtippadnbngcjlaaDoorRows
import GoSem.ClaimSeven
namespace Go.Proofs.YtippadnbngcjlaaDoor
namespace Rows

/-- THE TIED CARD OF 'sleuthlaw06.ReduceGrammars'. -/
def reduceGrammarsCard : Claim7 := { stood := { row := reduceGrammarsRow, standIns := [], harness := (true, "3f0c5ff5b722f05bf4587e3a3fc238037772bb4cde11174640d07cc27ae37882"), looks := true }, kinds := [], alts := [], laidByText := true, laidKinds := [.data, .data, .data], laidTests := true, laidLooks := .later }
def ReduceGrammarsCardSaid : Prop := Claim7.holds Tryd.pinned (.plain (OpenSpec.ofChange reduceGrammarsSpec)) reduceGrammarsCard

/-- THE TIED CARD OF 'sleuthlaw06.ReduceLeast'. -/
def reduceLeastCard : Claim7 := { stood := { row := reduceLeastRow, standIns := [], harness := (true, "3f0c5ff5b722f05bf4587e3a3fc238037772bb4cde11174640d07cc27ae37882"), looks := true }, kinds := [], alts := [], laidByText := true, laidKinds := [.data, .data, .data], laidTests := true, laidLooks := .later }
def ReduceLeastCardSaid : Prop := Claim7.holds Tryd.pinned (.plain (OpenSpec.ofChange reduceLeastSpec)) reduceLeastCard

/-- THE TIED CARD OF 'sleuthlaw06.ReducePrunes'. -/
def reducePrunesCard : Claim7 := { stood := { row := reducePrunesRow, standIns := [], harness := (true, "3f0c5ff5b722f05bf4587e3a3fc238037772bb4cde11174640d07cc27ae37882"), looks := true }, kinds := [], alts := [], laidByText := true, laidKinds := [.data, .data, .data], laidTests := true, laidLooks := .later }
def ReducePrunesCardSaid : Prop := Claim7.holds Tryd.pinned (.plain (OpenSpec.ofChange reducePrunesSpec)) reducePrunesCard

/-- THE SECOND FORM's CARD OF 'sleuthlaw06.ReduceGrammars'. -/
def reduceGrammarsUptoCard : Claim7 := { stood := { row := reduceGrammarsUptoRow, standIns := [], harness := (true, "3f0c5ff5b722f05bf4587e3a3fc238037772bb4cde11174640d07cc27ae37882"), looks := true }, kinds := [], alts := [], laidByText := true, laidKinds := [.data, .data, .data], laidTests := true, laidLooks := .later }
def ReduceGrammarsUptoCardSaid : Prop := Claim7.holds Tryd.pinned (.plain (OpenSpec.upto reduceGrammarsSpec)) reduceGrammarsUptoCard

/-- THE SECOND FORM's CARD OF 'sleuthlaw06.ReduceLeast'. -/
def reduceLeastUptoCard : Claim7 := { stood := { row := reduceLeastUptoRow, standIns := [], harness := (true, "3f0c5ff5b722f05bf4587e3a3fc238037772bb4cde11174640d07cc27ae37882"), looks := true }, kinds := [], alts := [], laidByText := true, laidKinds := [.data, .data, .data], laidTests := true, laidLooks := .later }
def ReduceLeastUptoCardSaid : Prop := Claim7.holds Tryd.pinned (.plain (OpenSpec.upto reduceLeastSpec)) reduceLeastUptoCard

/-- THE SECOND FORM's CARD OF 'sleuthlaw06.ReducePrunes'. -/
def reducePrunesUptoCard : Claim7 := { stood := { row := reducePrunesUptoRow, standIns := [], harness := (true, "3f0c5ff5b722f05bf4587e3a3fc238037772bb4cde11174640d07cc27ae37882"), looks := true }, kinds := [], alts := [], laidByText := true, laidKinds := [.data, .data, .data], laidTests := true, laidLooks := .later }
def ReducePrunesUptoCardSaid : Prop := Claim7.holds Tryd.pinned (.plain (OpenSpec.upto reducePrunesSpec)) reducePrunesUptoCard
end Rows
end Go.Proofs.YtippadnbngcjlaaDoor
