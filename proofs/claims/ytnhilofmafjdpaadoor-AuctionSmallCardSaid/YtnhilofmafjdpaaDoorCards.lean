/-
  DERIVED. GIVEN WITH THE SEED: THE CARDS: each row of YtnhilofmafjdpaaDoorRows.lean that lists a variable, with what it lists TIED to the program's text (the seventh form; the later family's looks); each row that meets fmt, with fmt's text TOLD by the authors' own Lean function (tested against real Go, not proved from fmt's source: count such statements apart). THE CARD IS WHAT COUNTS. Prove the row's statement (the work); the ties are given (YtnhilofmafjdpaaDoorTie.lean); close each card by the builder's one call (the guide's Derived/Test/ToyasCard.lean, 'card_holds'). Laid BY PROGRAM, IN A SANDBOX (cutbox-door.mjs). By AI agents, Wed Nov 11 2026. No macro, syntax, notation, axiom, sorry.
-/
import Derived.Test.YtnhilofmafjdpaaDoorRows
import GoSem.ClaimSeven
namespace Go.Proofs.YtnhilofmafjdpaaDoor
namespace Rows

/-- THE TIED CARD OF 'finesselaw09.AuctionLeader'. -/
def auctionLeaderCard : Claim7 := { stood := { row := auctionLeaderRow, standIns := [], harness := (true, "546be36b3b212cd32a6d1dccf863d376522d9eb5a6dc316f5ace20d1cdcda9e4"), looks := false }, kinds := [], alts := [], laidByText := true, laidKinds := [.data], laidTests := true, laidLooks := .later }
def AuctionLeaderCardSaid : Prop := Claim7.holds Tryd.pinned (.plain (OpenSpec.ofChange auctionLeaderSpec)) auctionLeaderCard

/-- THE TIED CARD OF 'finesselaw09.AuctionTurned'. -/
def auctionTurnedCard : Claim7 := { stood := { row := auctionTurnedRow, standIns := [], harness := (true, "546be36b3b212cd32a6d1dccf863d376522d9eb5a6dc316f5ace20d1cdcda9e4"), looks := false }, kinds := [], alts := [], laidByText := true, laidKinds := [.data], laidTests := true, laidLooks := .later }
def AuctionTurnedCardSaid : Prop := Claim7.holds Tryd.pinned (.plain (OpenSpec.ofChange auctionTurnedSpec)) auctionTurnedCard

/-- THE TIED CARD OF 'finesselaw09.AuctionTells'. -/
def auctionTellsCard : Claim7 := { stood := { row := auctionTellsRow, standIns := [], harness := (true, "546be36b3b212cd32a6d1dccf863d376522d9eb5a6dc316f5ace20d1cdcda9e4"), looks := false }, kinds := [], alts := [], laidByText := true, laidKinds := [.data], laidTests := true, laidLooks := .later }
def AuctionTellsCardSaid : Prop := Claim7.holds Tryd.pinned (.plain (OpenSpec.ofChange auctionTellsSpec)) auctionTellsCard

/-- THE TIED CARD OF 'finesselaw09.AuctionWrong'. -/
def auctionWrongCard : Claim7 := { stood := { row := auctionWrongRow, standIns := [], harness := (true, "546be36b3b212cd32a6d1dccf863d376522d9eb5a6dc316f5ace20d1cdcda9e4"), looks := false }, kinds := [], alts := [], laidByText := true, laidKinds := [.data], laidTests := true, laidLooks := .later }
def AuctionWrongCardSaid : Prop := Claim7.holds Tryd.pinned (.plain (OpenSpec.ofChange auctionWrongSpec)) auctionWrongCard

/-- THE TIED CARD OF 'finesselaw09.AuctionLegal'. -/
def auctionLegalCard : Claim7 := { stood := { row := auctionLegalRow, standIns := [], harness := (true, "546be36b3b212cd32a6d1dccf863d376522d9eb5a6dc316f5ace20d1cdcda9e4"), looks := false }, kinds := [], alts := [], laidByText := true, laidKinds := [.data], laidTests := true, laidLooks := .later }
def AuctionLegalCardSaid : Prop := Claim7.holds Tryd.pinned (.plain (OpenSpec.ofChange auctionLegalSpec)) auctionLegalCard

/-- THE TIED CARD OF 'finesselaw09.AuctionEnds'. -/
def auctionEndsCard : Claim7 := { stood := { row := auctionEndsRow, standIns := [], harness := (true, "546be36b3b212cd32a6d1dccf863d376522d9eb5a6dc316f5ace20d1cdcda9e4"), looks := false }, kinds := [], alts := [], laidByText := true, laidKinds := [.data], laidTests := true, laidLooks := .later }
def AuctionEndsCardSaid : Prop := Claim7.holds Tryd.pinned (.plain (OpenSpec.ofChange auctionEndsSpec)) auctionEndsCard

/-- THE TIED CARD OF 'finesselaw09.AuctionReads'. -/
def auctionReadsCard : Claim7 := { stood := { row := auctionReadsRow, standIns := [], harness := (true, "546be36b3b212cd32a6d1dccf863d376522d9eb5a6dc316f5ace20d1cdcda9e4"), looks := false }, kinds := [], alts := [], laidByText := true, laidKinds := [.data, .data, .pinned], laidTests := true, laidLooks := .later }
def AuctionReadsCardSaid : Prop := Claim7.holds Tryd.pinned (.plain (OpenSpec.ofChange auctionReadsSpec)) auctionReadsCard

/-- THE TIED CARD OF 'finesselaw09.AuctionBack'. -/
def auctionBackCard : Claim7 := { stood := { row := auctionBackRow, standIns := [], harness := (true, "546be36b3b212cd32a6d1dccf863d376522d9eb5a6dc316f5ace20d1cdcda9e4"), looks := false }, kinds := [], alts := [], laidByText := true, laidKinds := [.data, .data, .pinned], laidTests := true, laidLooks := .later }
def AuctionBackCardSaid : Prop := Claim7.holds Tryd.pinned (.plain (OpenSpec.ofChange auctionBackSpec)) auctionBackCard

/-- THE TIED CARD OF 'finesselaw09.AuctionSmall'. -/
def auctionSmallCard : Claim7 := { stood := { row := auctionSmallRow, standIns := [], harness := (true, "546be36b3b212cd32a6d1dccf863d376522d9eb5a6dc316f5ace20d1cdcda9e4"), looks := false }, kinds := [], alts := [], laidByText := true, laidKinds := [.data, .data, .pinned], laidTests := true, laidLooks := .later }
def AuctionSmallCardSaid : Prop := Claim7.holds Tryd.pinned (.plain (OpenSpec.ofChange auctionSmallSpec)) auctionSmallCard

/-- THE SECOND FORM's CARD OF 'finesselaw09.AuctionLeader'. -/
def auctionLeaderUptoCard : Claim7 := { stood := { row := auctionLeaderUptoRow, standIns := [], harness := (true, "546be36b3b212cd32a6d1dccf863d376522d9eb5a6dc316f5ace20d1cdcda9e4"), looks := false }, kinds := [], alts := [], laidByText := true, laidKinds := [.data], laidTests := true, laidLooks := .later }
def AuctionLeaderUptoCardSaid : Prop := Claim7.holds Tryd.pinned (.plain (OpenSpec.upto auctionLeaderSpec)) auctionLeaderUptoCard

/-- THE SECOND FORM's CARD OF 'finesselaw09.AuctionTurned'. -/
def auctionTurnedUptoCard : Claim7 := { stood := { row := auctionTurnedUptoRow, standIns := [], harness := (true, "546be36b3b212cd32a6d1dccf863d376522d9eb5a6dc316f5ace20d1cdcda9e4"), looks := false }, kinds := [], alts := [], laidByText := true, laidKinds := [.data], laidTests := true, laidLooks := .later }
def AuctionTurnedUptoCardSaid : Prop := Claim7.holds Tryd.pinned (.plain (OpenSpec.upto auctionTurnedSpec)) auctionTurnedUptoCard

/-- THE SECOND FORM's CARD OF 'finesselaw09.AuctionTells'. -/
def auctionTellsUptoCard : Claim7 := { stood := { row := auctionTellsUptoRow, standIns := [], harness := (true, "546be36b3b212cd32a6d1dccf863d376522d9eb5a6dc316f5ace20d1cdcda9e4"), looks := false }, kinds := [], alts := [], laidByText := true, laidKinds := [.data], laidTests := true, laidLooks := .later }
def AuctionTellsUptoCardSaid : Prop := Claim7.holds Tryd.pinned (.plain (OpenSpec.upto auctionTellsSpec)) auctionTellsUptoCard

/-- THE SECOND FORM's CARD OF 'finesselaw09.AuctionWrong'. -/
def auctionWrongUptoCard : Claim7 := { stood := { row := auctionWrongUptoRow, standIns := [], harness := (true, "546be36b3b212cd32a6d1dccf863d376522d9eb5a6dc316f5ace20d1cdcda9e4"), looks := false }, kinds := [], alts := [], laidByText := true, laidKinds := [.data], laidTests := true, laidLooks := .later }
def AuctionWrongUptoCardSaid : Prop := Claim7.holds Tryd.pinned (.plain (OpenSpec.upto auctionWrongSpec)) auctionWrongUptoCard

/-- THE SECOND FORM's CARD OF 'finesselaw09.AuctionLegal'. -/
def auctionLegalUptoCard : Claim7 := { stood := { row := auctionLegalUptoRow, standIns := [], harness := (true, "546be36b3b212cd32a6d1dccf863d376522d9eb5a6dc316f5ace20d1cdcda9e4"), looks := false }, kinds := [], alts := [], laidByText := true, laidKinds := [.data], laidTests := true, laidLooks := .later }
def AuctionLegalUptoCardSaid : Prop := Claim7.holds Tryd.pinned (.plain (OpenSpec.upto auctionLegalSpec)) auctionLegalUptoCard

/-- THE SECOND FORM's CARD OF 'finesselaw09.AuctionEnds'. -/
def auctionEndsUptoCard : Claim7 := { stood := { row := auctionEndsUptoRow, standIns := [], harness := (true, "546be36b3b212cd32a6d1dccf863d376522d9eb5a6dc316f5ace20d1cdcda9e4"), looks := false }, kinds := [], alts := [], laidByText := true, laidKinds := [.data], laidTests := true, laidLooks := .later }
def AuctionEndsUptoCardSaid : Prop := Claim7.holds Tryd.pinned (.plain (OpenSpec.upto auctionEndsSpec)) auctionEndsUptoCard

/-- THE SECOND FORM's CARD OF 'finesselaw09.AuctionReads'. -/
def auctionReadsUptoCard : Claim7 := { stood := { row := auctionReadsUptoRow, standIns := [], harness := (true, "546be36b3b212cd32a6d1dccf863d376522d9eb5a6dc316f5ace20d1cdcda9e4"), looks := false }, kinds := [], alts := [], laidByText := true, laidKinds := [.data, .data, .pinned], laidTests := true, laidLooks := .later }
def AuctionReadsUptoCardSaid : Prop := Claim7.holds Tryd.pinned (.plain (OpenSpec.upto auctionReadsSpec)) auctionReadsUptoCard

/-- THE SECOND FORM's CARD OF 'finesselaw09.AuctionBack'. -/
def auctionBackUptoCard : Claim7 := { stood := { row := auctionBackUptoRow, standIns := [], harness := (true, "546be36b3b212cd32a6d1dccf863d376522d9eb5a6dc316f5ace20d1cdcda9e4"), looks := false }, kinds := [], alts := [], laidByText := true, laidKinds := [.data, .data, .pinned], laidTests := true, laidLooks := .later }
def AuctionBackUptoCardSaid : Prop := Claim7.holds Tryd.pinned (.plain (OpenSpec.upto auctionBackSpec)) auctionBackUptoCard

/-- THE SECOND FORM's CARD OF 'finesselaw09.AuctionSmall'. -/
def auctionSmallUptoCard : Claim7 := { stood := { row := auctionSmallUptoRow, standIns := [], harness := (true, "546be36b3b212cd32a6d1dccf863d376522d9eb5a6dc316f5ace20d1cdcda9e4"), looks := false }, kinds := [], alts := [], laidByText := true, laidKinds := [.data, .data, .pinned], laidTests := true, laidLooks := .later }
def AuctionSmallUptoCardSaid : Prop := Claim7.holds Tryd.pinned (.plain (OpenSpec.upto auctionSmallSpec)) auctionSmallUptoCard
end Rows
end Go.Proofs.YtnhilofmafjdpaaDoor
