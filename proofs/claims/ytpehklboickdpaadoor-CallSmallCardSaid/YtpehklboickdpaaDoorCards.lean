/-
  DERIVED. GIVEN WITH THE SEED: THE CARDS: each row of YtpehklboickdpaaDoorRows.lean that lists a variable, with what it lists TIED to the program's text (the seventh form; the later family's looks); each row that meets fmt, with fmt's text TOLD by the authors' own Lean function (tested against real Go, not proved from fmt's source: count such statements apart). THE CARD IS WHAT COUNTS. Prove the row's statement (the work); the ties are given (YtpehklboickdpaaDoorTie.lean); close each card by the builder's one call (the guide's Derived/Test/ToyasCard.lean, 'card_holds'). Laid BY PROGRAM, IN A SANDBOX (cutbox-door.mjs). By AI agents, Wed Nov 11 2026. No macro, syntax, notation, axiom, sorry.
-/
import Derived.Test.YtpehklboickdpaaDoorRows
import GoSem.ClaimSeven
namespace Go.Proofs.YtpehklboickdpaaDoor
namespace Rows

/-- THE TIED CARD OF 'finesselaw08.CallTexts'. -/
def callTextsCard : Claim7 := { stood := { row := callTextsRow, standIns := [], harness := (true, "99508163d32c6fea8ea92b374ab69625cda150d30426ebed4f1c2f07402f0ea6"), looks := false }, kinds := [], alts := [], laidByText := true, laidKinds := [.data], laidTests := true, laidLooks := .later }
def CallTextsCardSaid : Prop := Claim7.holds Tryd.pinned (.plain (OpenSpec.ofChange callTextsSpec)) callTextsCard

/-- THE TIED CARD OF 'finesselaw08.CallOrder'. -/
def callOrderCard : Claim7 := { stood := { row := callOrderRow, standIns := [], harness := (true, "99508163d32c6fea8ea92b374ab69625cda150d30426ebed4f1c2f07402f0ea6"), looks := false }, kinds := [], alts := [], laidByText := true, laidKinds := [.data], laidTests := true, laidLooks := .later }
def CallOrderCardSaid : Prop := Claim7.holds Tryd.pinned (.plain (OpenSpec.ofChange callOrderSpec)) callOrderCard

/-- THE TIED CARD OF 'finesselaw08.CallCheapest'. -/
def callCheapestCard : Claim7 := { stood := { row := callCheapestRow, standIns := [], harness := (true, "99508163d32c6fea8ea92b374ab69625cda150d30426ebed4f1c2f07402f0ea6"), looks := false }, kinds := [], alts := [], laidByText := true, laidKinds := [.data], laidTests := true, laidLooks := .later }
def CallCheapestCardSaid : Prop := Claim7.holds Tryd.pinned (.plain (OpenSpec.ofChange callCheapestSpec)) callCheapestCard

/-- THE TIED CARD OF 'finesselaw08.CallTells'. -/
def callTellsCard : Claim7 := { stood := { row := callTellsRow, standIns := [], harness := (true, "99508163d32c6fea8ea92b374ab69625cda150d30426ebed4f1c2f07402f0ea6"), looks := false }, kinds := [], alts := [], laidByText := true, laidKinds := [.data], laidTests := true, laidLooks := .later }
def CallTellsCardSaid : Prop := Claim7.holds Tryd.pinned (.plain (OpenSpec.ofChange callTellsSpec)) callTellsCard

/-- THE TIED CARD OF 'finesselaw08.CallWrong'. -/
def callWrongCard : Claim7 := { stood := { row := callWrongRow, standIns := [], harness := (true, "99508163d32c6fea8ea92b374ab69625cda150d30426ebed4f1c2f07402f0ea6"), looks := false }, kinds := [], alts := [], laidByText := true, laidKinds := [.data], laidTests := true, laidLooks := .later }
def CallWrongCardSaid : Prop := Claim7.holds Tryd.pinned (.plain (OpenSpec.ofChange callWrongSpec)) callWrongCard

/-- THE TIED CARD OF 'finesselaw08.CallSmall'. -/
def callSmallCard : Claim7 := { stood := { row := callSmallRow, standIns := [], harness := (true, "99508163d32c6fea8ea92b374ab69625cda150d30426ebed4f1c2f07402f0ea6"), looks := false }, kinds := [], alts := [], laidByText := true, laidKinds := [.data], laidTests := true, laidLooks := .later }
def CallSmallCardSaid : Prop := Claim7.holds Tryd.pinned (.plain (OpenSpec.ofChange callSmallSpec)) callSmallCard

/-- THE TIED CARD OF 'finesselaw08.CallReads'. -/
def callReadsCard : Claim7 := { stood := { row := callReadsRow, standIns := [], harness := (true, "99508163d32c6fea8ea92b374ab69625cda150d30426ebed4f1c2f07402f0ea6"), looks := false }, kinds := [], alts := [], laidByText := true, laidKinds := [.data, .listed, .data, .data, .pinned], laidTests := true, laidLooks := .later }
def CallReadsCardSaid : Prop := Claim7.holds Tryd.pinned (.plain (OpenSpec.ofChange callReadsSpec)) callReadsCard

/-- THE SECOND FORM's CARD OF 'finesselaw08.CallTexts'. -/
def callTextsUptoCard : Claim7 := { stood := { row := callTextsUptoRow, standIns := [], harness := (true, "99508163d32c6fea8ea92b374ab69625cda150d30426ebed4f1c2f07402f0ea6"), looks := false }, kinds := [], alts := [], laidByText := true, laidKinds := [.data], laidTests := true, laidLooks := .later }
def CallTextsUptoCardSaid : Prop := Claim7.holds Tryd.pinned (.plain (OpenSpec.upto callTextsSpec)) callTextsUptoCard

/-- THE SECOND FORM's CARD OF 'finesselaw08.CallOrder'. -/
def callOrderUptoCard : Claim7 := { stood := { row := callOrderUptoRow, standIns := [], harness := (true, "99508163d32c6fea8ea92b374ab69625cda150d30426ebed4f1c2f07402f0ea6"), looks := false }, kinds := [], alts := [], laidByText := true, laidKinds := [.data], laidTests := true, laidLooks := .later }
def CallOrderUptoCardSaid : Prop := Claim7.holds Tryd.pinned (.plain (OpenSpec.upto callOrderSpec)) callOrderUptoCard

/-- THE SECOND FORM's CARD OF 'finesselaw08.CallCheapest'. -/
def callCheapestUptoCard : Claim7 := { stood := { row := callCheapestUptoRow, standIns := [], harness := (true, "99508163d32c6fea8ea92b374ab69625cda150d30426ebed4f1c2f07402f0ea6"), looks := false }, kinds := [], alts := [], laidByText := true, laidKinds := [.data], laidTests := true, laidLooks := .later }
def CallCheapestUptoCardSaid : Prop := Claim7.holds Tryd.pinned (.plain (OpenSpec.upto callCheapestSpec)) callCheapestUptoCard

/-- THE SECOND FORM's CARD OF 'finesselaw08.CallTells'. -/
def callTellsUptoCard : Claim7 := { stood := { row := callTellsUptoRow, standIns := [], harness := (true, "99508163d32c6fea8ea92b374ab69625cda150d30426ebed4f1c2f07402f0ea6"), looks := false }, kinds := [], alts := [], laidByText := true, laidKinds := [.data], laidTests := true, laidLooks := .later }
def CallTellsUptoCardSaid : Prop := Claim7.holds Tryd.pinned (.plain (OpenSpec.upto callTellsSpec)) callTellsUptoCard

/-- THE SECOND FORM's CARD OF 'finesselaw08.CallWrong'. -/
def callWrongUptoCard : Claim7 := { stood := { row := callWrongUptoRow, standIns := [], harness := (true, "99508163d32c6fea8ea92b374ab69625cda150d30426ebed4f1c2f07402f0ea6"), looks := false }, kinds := [], alts := [], laidByText := true, laidKinds := [.data], laidTests := true, laidLooks := .later }
def CallWrongUptoCardSaid : Prop := Claim7.holds Tryd.pinned (.plain (OpenSpec.upto callWrongSpec)) callWrongUptoCard

/-- THE SECOND FORM's CARD OF 'finesselaw08.CallSmall'. -/
def callSmallUptoCard : Claim7 := { stood := { row := callSmallUptoRow, standIns := [], harness := (true, "99508163d32c6fea8ea92b374ab69625cda150d30426ebed4f1c2f07402f0ea6"), looks := false }, kinds := [], alts := [], laidByText := true, laidKinds := [.data], laidTests := true, laidLooks := .later }
def CallSmallUptoCardSaid : Prop := Claim7.holds Tryd.pinned (.plain (OpenSpec.upto callSmallSpec)) callSmallUptoCard

/-- THE SECOND FORM's CARD OF 'finesselaw08.CallReads'. -/
def callReadsUptoCard : Claim7 := { stood := { row := callReadsUptoRow, standIns := [], harness := (true, "99508163d32c6fea8ea92b374ab69625cda150d30426ebed4f1c2f07402f0ea6"), looks := false }, kinds := [], alts := [], laidByText := true, laidKinds := [.data, .listed, .data, .data, .pinned], laidTests := true, laidLooks := .later }
def CallReadsUptoCardSaid : Prop := Claim7.holds Tryd.pinned (.plain (OpenSpec.upto callReadsSpec)) callReadsUptoCard
end Rows
end Go.Proofs.YtpehklboickdpaaDoor
