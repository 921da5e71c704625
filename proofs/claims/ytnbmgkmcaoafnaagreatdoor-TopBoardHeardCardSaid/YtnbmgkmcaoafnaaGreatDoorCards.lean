/-
  DERIVED. GIVEN WITH THE SEED: THE CARDS: each row of YtnbmgkmcaoafnaaGreatDoorRows.lean that lists a variable, with what it lists TIED to the program's text (the seventh form; the later family's looks); each row that meets fmt, with fmt's text TOLD by the authors' own Lean function (tested against real Go, not proved from fmt's source: count such statements apart). THE CARD IS WHAT COUNTS. Prove the row's statement (the work); the ties are given (YtnbmgkmcaoafnaaGreatDoorTie.lean); close each card by the builder's one call (the guide's Derived/Test/ToyasCard.lean, 'card_holds'). Laid BY PROGRAM, IN A SANDBOX (cutbox-door.mjs). By AI agents, Wed Nov 11 2026. No macro, syntax, notation, axiom, sorry.
-/
import Derived.Test.YtnbmgkmcaoafnaaGreatDoorRows
import GoSem.ClaimSeven
namespace Go.Proofs.YtnbmgkmcaoafnaaGreatDoor
namespace Rows

/-- THE TIED CARD OF 'ochetop.TopBoardHeard'. -/
def topBoardHeardCard : Claim7 := { stood := { row := topBoardHeardRow, standIns := [], harness := (true, "d4850d62b645cf1d064f3fd59fb54b941972331d34add379011def2f47536a1b"), looks := false }, kinds := [], alts := [], laidByText := true, laidKinds := [.data, .data], laidTests := true, laidLooks := .later }
def TopBoardHeardCardSaid : Prop := Claim7.holds Tryz.pinned (.plain (OpenSpec.ofChange topBoardHeardSpec)) topBoardHeardCard

/-- THE SECOND FORM's CARD OF 'ochetop.TopBoardHeard'. -/
def topBoardHeardUptoCard : Claim7 := { stood := { row := topBoardHeardUptoRow, standIns := [], harness := (true, "d4850d62b645cf1d064f3fd59fb54b941972331d34add379011def2f47536a1b"), looks := false }, kinds := [], alts := [], laidByText := true, laidKinds := [.data, .data], laidTests := true, laidLooks := .later }
def TopBoardHeardUptoCardSaid : Prop := Claim7.holds Tryz.pinned (.plain (OpenSpec.upto topBoardHeardSpec)) topBoardHeardUptoCard
end Rows
end Go.Proofs.YtnbmgkmcaoafnaaGreatDoor
