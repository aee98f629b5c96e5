/-
  DERIVED. GIVEN WITH THE SEED: THE CARDS: each row of YtpalajfcffdhoaaGreatDoorRows.lean that lists a variable, with what it lists TIED to the program's text (the seventh form; the later family's looks); each row that meets fmt, with fmt's text TOLD by the authors' own Lean function (tested against real Go, not proved from fmt's source: count such statements apart). THE CARD IS WHAT COUNTS. Prove the row's statement (the work); the ties are given (YtpalajfcffdhoaaGreatDoorTie.lean); close each card by the builder's one call (the guide's Derived/Test/ToyasCard.lean, 'card_holds'). Laid BY PROGRAM, IN A SANDBOX (cutbox-door.mjs). By AI agents, Wed Nov 11 2026. No macro, syntax, notation, axiom, sorry.
-/
import Derived.Test.YtpalajfcffdhoaaGreatDoorRows
import GoSem.ClaimSeven
namespace Go.Proofs.YtpalajfcffdhoaaGreatDoor
namespace Rows

/-- THE TIED CARD OF 'finesselaw06.DealSmall'. -/
def dealSmallCard : Claim7 := { stood := { row := dealSmallRow, standIns := [], harness := (true, "919c417998a9885aa972d440201659faceafeb9b906796bcd8db607c5b5eb595"), looks := false }, kinds := [], alts := [], laidByText := true, laidKinds := [.data, .pinned], laidTests := true, laidLooks := .later }
def DealSmallCardSaid : Prop := Claim7.holds Tryz.pinned (.plain (OpenSpec.ofChange dealSmallSpec)) dealSmallCard

/-- THE SECOND FORM's CARD OF 'finesselaw06.DealSmall'. -/
def dealSmallUptoCard : Claim7 := { stood := { row := dealSmallUptoRow, standIns := [], harness := (true, "919c417998a9885aa972d440201659faceafeb9b906796bcd8db607c5b5eb595"), looks := false }, kinds := [], alts := [], laidByText := true, laidKinds := [.data, .pinned], laidTests := true, laidLooks := .later }
def DealSmallUptoCardSaid : Prop := Claim7.holds Tryz.pinned (.plain (OpenSpec.upto dealSmallSpec)) dealSmallUptoCard
end Rows
end Go.Proofs.YtpalajfcffdhoaaGreatDoor
