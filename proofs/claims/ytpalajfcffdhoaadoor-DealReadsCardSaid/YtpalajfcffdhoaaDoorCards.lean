/-
  DERIVED. GIVEN WITH THE SEED: THE CARDS: each row of YtpalajfcffdhoaaDoorRows.lean that lists a variable, with what it lists TIED to the program's text (the seventh form; the later family's looks); each row that meets fmt, with fmt's text TOLD by the authors' own Lean function (tested against real Go, not proved from fmt's source: count such statements apart). THE CARD IS WHAT COUNTS. Prove the row's statement (the work); the ties are given (YtpalajfcffdhoaaDoorTie.lean); close each card by the builder's one call (the guide's Derived/Test/ToyasCard.lean, 'card_holds'). Laid BY PROGRAM, IN A SANDBOX (cutbox-door.mjs). By AI agents, Wed Nov 11 2026. No macro, syntax, notation, axiom, sorry.
-/
import Derived.Test.YtpalajfcffdhoaaDoorRows
import GoSem.ClaimSeven
namespace Go.Proofs.YtpalajfcffdhoaaDoor
namespace Rows

/-- THE TIED CARD OF 'finesselaw06.DealTexts'. -/
def dealTextsCard : Claim7 := { stood := { row := dealTextsRow, standIns := [], harness := (true, "53664e9a7e91148a1afca549d20abd5c19d3ded7f8a58184341ba2fc9d81637c"), looks := false }, kinds := [], alts := [], laidByText := true, laidKinds := [.data, .pinned], laidTests := true, laidLooks := .later }
def DealTextsCardSaid : Prop := Claim7.holds Tryd.pinned (.plain (OpenSpec.ofChange dealTextsSpec)) dealTextsCard

/-- THE TIED CARD OF 'finesselaw06.DealReads'. -/
def dealReadsCard : Claim7 := { stood := { row := dealReadsRow, standIns := [], harness := (true, "53664e9a7e91148a1afca549d20abd5c19d3ded7f8a58184341ba2fc9d81637c"), looks := false }, kinds := [], alts := [], laidByText := true, laidKinds := [.data, .pinned], laidTests := true, laidLooks := .later }
def DealReadsCardSaid : Prop := Claim7.holds Tryd.pinned (.plain (OpenSpec.ofChange dealReadsSpec)) dealReadsCard

/-- THE SECOND FORM's CARD OF 'finesselaw06.DealTexts'. -/
def dealTextsUptoCard : Claim7 := { stood := { row := dealTextsUptoRow, standIns := [], harness := (true, "53664e9a7e91148a1afca549d20abd5c19d3ded7f8a58184341ba2fc9d81637c"), looks := false }, kinds := [], alts := [], laidByText := true, laidKinds := [.data, .pinned], laidTests := true, laidLooks := .later }
def DealTextsUptoCardSaid : Prop := Claim7.holds Tryd.pinned (.plain (OpenSpec.upto dealTextsSpec)) dealTextsUptoCard

/-- THE SECOND FORM's CARD OF 'finesselaw06.DealReads'. -/
def dealReadsUptoCard : Claim7 := { stood := { row := dealReadsUptoRow, standIns := [], harness := (true, "53664e9a7e91148a1afca549d20abd5c19d3ded7f8a58184341ba2fc9d81637c"), looks := false }, kinds := [], alts := [], laidByText := true, laidKinds := [.data, .pinned], laidTests := true, laidLooks := .later }
def DealReadsUptoCardSaid : Prop := Claim7.holds Tryd.pinned (.plain (OpenSpec.upto dealReadsSpec)) dealReadsUptoCard
end Rows
end Go.Proofs.YtpalajfcffdhoaaDoor
