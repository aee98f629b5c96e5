/-
  DERIVED. GIVEN WITH THE SEED: THE CARDS: each row of YthpdeiolhahobaaDoorRows.lean that lists a variable, with what it lists TIED to the program's text (the seventh form; the later family's looks); each row that meets fmt, with fmt's text TOLD by the authors' own Lean function (tested against real Go, not proved from fmt's source: count such statements apart). THE CARD IS WHAT COUNTS. Prove the row's statement (the work); the ties are given (YthpdeiolhahobaaDoorTie.lean); close each card by the builder's one call (the guide's Derived/Test/ToyasCard.lean, 'card_holds'). Laid BY PROGRAM, IN A SANDBOX (cutbox-door.mjs). By AI agents, Wed Nov 11 2026. No macro, syntax, notation, axiom, sorry.
-/
import Derived.Test.YthpdeiolhahobaaDoorRows
import GoSem.ClaimSeven
namespace Go.Proofs.YthpdeiolhahobaaDoor
namespace Rows

/-- THE TIED CARD OF 'finesselaw02.NatReads'. -/
def natReadsCard : Claim7 := { stood := { row := natReadsRow, standIns := [], harness := (true, "6e9508bc34c65ad3296c754d00957a4061542bbc8ac9c17388953dfb809801cf"), looks := false }, kinds := [], alts := [], laidByText := true, laidKinds := [.data, .pinned], laidTests := true, laidLooks := .later }
def NatReadsCardSaid : Prop := Claim7.holds Tryd.pinned (.plain (OpenSpec.ofChange natReadsSpec)) natReadsCard

/-- THE TIED CARD OF 'finesselaw02.NatMore'. -/
def natMoreCard : Claim7 := { stood := { row := natMoreRow, standIns := [], harness := (true, "6e9508bc34c65ad3296c754d00957a4061542bbc8ac9c17388953dfb809801cf"), looks := false }, kinds := [], alts := [], laidByText := true, laidKinds := [.data, .pinned], laidTests := true, laidLooks := .later }
def NatMoreCardSaid : Prop := Claim7.holds Tryd.pinned (.plain (OpenSpec.ofChange natMoreSpec)) natMoreCard

/-- THE TIED CARD OF 'finesselaw02.NatWrong'. -/
def natWrongCard : Claim7 := { stood := { row := natWrongRow, standIns := [], harness := (true, "6e9508bc34c65ad3296c754d00957a4061542bbc8ac9c17388953dfb809801cf"), looks := false }, kinds := [], alts := [], laidByText := true, laidKinds := [.data, .pinned], laidTests := true, laidLooks := .later }
def NatWrongCardSaid : Prop := Claim7.holds Tryd.pinned (.plain (OpenSpec.ofChange natWrongSpec)) natWrongCard

/-- THE TIED CARD OF 'finesselaw02.NatRing'. -/
def natRingCard : Claim7 := { stood := { row := natRingRow, standIns := [], harness := (true, "6e9508bc34c65ad3296c754d00957a4061542bbc8ac9c17388953dfb809801cf"), looks := false }, kinds := [], alts := [], laidByText := true, laidKinds := [.data, .pinned], laidTests := true, laidLooks := .later }
def NatRingCardSaid : Prop := Claim7.holds Tryd.pinned (.plain (OpenSpec.ofChange natRingSpec)) natRingCard

/-- THE TIED CARD OF 'finesselaw02.NatDivides'. -/
def natDividesCard : Claim7 := { stood := { row := natDividesRow, standIns := [], harness := (true, "6e9508bc34c65ad3296c754d00957a4061542bbc8ac9c17388953dfb809801cf"), looks := false }, kinds := [], alts := [], laidByText := true, laidKinds := [.data, .pinned], laidTests := true, laidLooks := .later }
def NatDividesCardSaid : Prop := Claim7.holds Tryd.pinned (.plain (OpenSpec.ofChange natDividesSpec)) natDividesCard

/-- THE TIED CARD OF 'finesselaw02.NatChooses'. -/
def natChoosesCard : Claim7 := { stood := { row := natChoosesRow, standIns := [], harness := (true, "6e9508bc34c65ad3296c754d00957a4061542bbc8ac9c17388953dfb809801cf"), looks := false }, kinds := [], alts := [], laidByText := true, laidKinds := [.data, .pinned], laidTests := true, laidLooks := .later }
def NatChoosesCardSaid : Prop := Claim7.holds Tryd.pinned (.plain (OpenSpec.ofChange natChoosesSpec)) natChoosesCard

/-- THE TIED CARD OF 'finesselaw02.NatBack'. -/
def natBackCard : Claim7 := { stood := { row := natBackRow, standIns := [], harness := (true, "6e9508bc34c65ad3296c754d00957a4061542bbc8ac9c17388953dfb809801cf"), looks := false }, kinds := [], alts := [], laidByText := true, laidKinds := [.data, .pinned], laidTests := true, laidLooks := .later }
def NatBackCardSaid : Prop := Claim7.holds Tryd.pinned (.plain (OpenSpec.ofChange natBackSpec)) natBackCard

/-- THE TIED CARD OF 'finesselaw02.NatTells'. -/
def natTellsCard : Claim7 := { stood := { row := natTellsRow, standIns := [], harness := (true, "6e9508bc34c65ad3296c754d00957a4061542bbc8ac9c17388953dfb809801cf"), looks := false }, kinds := [], alts := [], laidByText := true, laidKinds := [.data, .pinned], laidTests := true, laidLooks := .later }
def NatTellsCardSaid : Prop := Claim7.holds Tryd.pinned (.plain (OpenSpec.ofChange natTellsSpec)) natTellsCard

/-- THE TIED CARD OF 'finesselaw02.NatSmall'. -/
def natSmallCard : Claim7 := { stood := { row := natSmallRow, standIns := [], harness := (true, "6e9508bc34c65ad3296c754d00957a4061542bbc8ac9c17388953dfb809801cf"), looks := false }, kinds := [], alts := [], laidByText := true, laidKinds := [.data, .pinned], laidTests := true, laidLooks := .later }
def NatSmallCardSaid : Prop := Claim7.holds Tryd.pinned (.plain (OpenSpec.ofChange natSmallSpec)) natSmallCard

/-- THE SECOND FORM's CARD OF 'finesselaw02.NatReads'. -/
def natReadsUptoCard : Claim7 := { stood := { row := natReadsUptoRow, standIns := [], harness := (true, "6e9508bc34c65ad3296c754d00957a4061542bbc8ac9c17388953dfb809801cf"), looks := false }, kinds := [], alts := [], laidByText := true, laidKinds := [.data, .pinned], laidTests := true, laidLooks := .later }
def NatReadsUptoCardSaid : Prop := Claim7.holds Tryd.pinned (.plain (OpenSpec.upto natReadsSpec)) natReadsUptoCard

/-- THE SECOND FORM's CARD OF 'finesselaw02.NatMore'. -/
def natMoreUptoCard : Claim7 := { stood := { row := natMoreUptoRow, standIns := [], harness := (true, "6e9508bc34c65ad3296c754d00957a4061542bbc8ac9c17388953dfb809801cf"), looks := false }, kinds := [], alts := [], laidByText := true, laidKinds := [.data, .pinned], laidTests := true, laidLooks := .later }
def NatMoreUptoCardSaid : Prop := Claim7.holds Tryd.pinned (.plain (OpenSpec.upto natMoreSpec)) natMoreUptoCard

/-- THE SECOND FORM's CARD OF 'finesselaw02.NatWrong'. -/
def natWrongUptoCard : Claim7 := { stood := { row := natWrongUptoRow, standIns := [], harness := (true, "6e9508bc34c65ad3296c754d00957a4061542bbc8ac9c17388953dfb809801cf"), looks := false }, kinds := [], alts := [], laidByText := true, laidKinds := [.data, .pinned], laidTests := true, laidLooks := .later }
def NatWrongUptoCardSaid : Prop := Claim7.holds Tryd.pinned (.plain (OpenSpec.upto natWrongSpec)) natWrongUptoCard

/-- THE SECOND FORM's CARD OF 'finesselaw02.NatRing'. -/
def natRingUptoCard : Claim7 := { stood := { row := natRingUptoRow, standIns := [], harness := (true, "6e9508bc34c65ad3296c754d00957a4061542bbc8ac9c17388953dfb809801cf"), looks := false }, kinds := [], alts := [], laidByText := true, laidKinds := [.data, .pinned], laidTests := true, laidLooks := .later }
def NatRingUptoCardSaid : Prop := Claim7.holds Tryd.pinned (.plain (OpenSpec.upto natRingSpec)) natRingUptoCard

/-- THE SECOND FORM's CARD OF 'finesselaw02.NatDivides'. -/
def natDividesUptoCard : Claim7 := { stood := { row := natDividesUptoRow, standIns := [], harness := (true, "6e9508bc34c65ad3296c754d00957a4061542bbc8ac9c17388953dfb809801cf"), looks := false }, kinds := [], alts := [], laidByText := true, laidKinds := [.data, .pinned], laidTests := true, laidLooks := .later }
def NatDividesUptoCardSaid : Prop := Claim7.holds Tryd.pinned (.plain (OpenSpec.upto natDividesSpec)) natDividesUptoCard

/-- THE SECOND FORM's CARD OF 'finesselaw02.NatChooses'. -/
def natChoosesUptoCard : Claim7 := { stood := { row := natChoosesUptoRow, standIns := [], harness := (true, "6e9508bc34c65ad3296c754d00957a4061542bbc8ac9c17388953dfb809801cf"), looks := false }, kinds := [], alts := [], laidByText := true, laidKinds := [.data, .pinned], laidTests := true, laidLooks := .later }
def NatChoosesUptoCardSaid : Prop := Claim7.holds Tryd.pinned (.plain (OpenSpec.upto natChoosesSpec)) natChoosesUptoCard

/-- THE SECOND FORM's CARD OF 'finesselaw02.NatBack'. -/
def natBackUptoCard : Claim7 := { stood := { row := natBackUptoRow, standIns := [], harness := (true, "6e9508bc34c65ad3296c754d00957a4061542bbc8ac9c17388953dfb809801cf"), looks := false }, kinds := [], alts := [], laidByText := true, laidKinds := [.data, .pinned], laidTests := true, laidLooks := .later }
def NatBackUptoCardSaid : Prop := Claim7.holds Tryd.pinned (.plain (OpenSpec.upto natBackSpec)) natBackUptoCard

/-- THE SECOND FORM's CARD OF 'finesselaw02.NatTells'. -/
def natTellsUptoCard : Claim7 := { stood := { row := natTellsUptoRow, standIns := [], harness := (true, "6e9508bc34c65ad3296c754d00957a4061542bbc8ac9c17388953dfb809801cf"), looks := false }, kinds := [], alts := [], laidByText := true, laidKinds := [.data, .pinned], laidTests := true, laidLooks := .later }
def NatTellsUptoCardSaid : Prop := Claim7.holds Tryd.pinned (.plain (OpenSpec.upto natTellsSpec)) natTellsUptoCard

/-- THE SECOND FORM's CARD OF 'finesselaw02.NatSmall'. -/
def natSmallUptoCard : Claim7 := { stood := { row := natSmallUptoRow, standIns := [], harness := (true, "6e9508bc34c65ad3296c754d00957a4061542bbc8ac9c17388953dfb809801cf"), looks := false }, kinds := [], alts := [], laidByText := true, laidKinds := [.data, .pinned], laidTests := true, laidLooks := .later }
def NatSmallUptoCardSaid : Prop := Claim7.holds Tryd.pinned (.plain (OpenSpec.upto natSmallSpec)) natSmallUptoCard
end Rows
end Go.Proofs.YthpdeiolhahobaaDoor
