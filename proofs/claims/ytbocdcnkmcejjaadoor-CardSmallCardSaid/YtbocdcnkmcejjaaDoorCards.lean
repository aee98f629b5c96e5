/-
  DERIVED. GIVEN WITH THE SEED: THE CARDS: each row of YtbocdcnkmcejjaaDoorRows.lean that lists a variable, with what it lists TIED to the program's text (the seventh form; the later family's looks); each row that meets fmt, with fmt's text TOLD by the authors' own Lean function (tested against real Go, not proved from fmt's source: count such statements apart). THE CARD IS WHAT COUNTS. Prove the row's statement (the work); the ties are given (YtbocdcnkmcejjaaDoorTie.lean); close each card by the builder's one call (the guide's Derived/Test/ToyasCard.lean, 'card_holds'). Laid BY PROGRAM, IN A SANDBOX (cutbox-door.mjs). By AI agents, Wed Nov 11 2026. No macro, syntax, notation, axiom, sorry.
-/
import Derived.Test.YtbocdcnkmcejjaaDoorRows
import GoSem.ClaimSeven
namespace Go.Proofs.YtbocdcnkmcejjaaDoor
namespace Rows

/-- THE TIED CARD OF 'finesselaw04.CardTells'. -/
def cardTellsCard : Claim7 := { stood := { row := cardTellsRow, standIns := [], harness := (true, "b18a25bb790ff0ba5c9582d630af5de2e7349fed322c543899abcc7dddc05019"), looks := false }, kinds := [], alts := [], laidByText := true, laidKinds := [.data, .data, .pinned], laidTests := true, laidLooks := .later }
def CardTellsCardSaid : Prop := Claim7.holds Tryd.pinned (.plain (OpenSpec.ofChange cardTellsSpec)) cardTellsCard

/-- THE TIED CARD OF 'finesselaw04.CardOne'. -/
def cardOneCard : Claim7 := { stood := { row := cardOneRow, standIns := [], harness := (true, "b18a25bb790ff0ba5c9582d630af5de2e7349fed322c543899abcc7dddc05019"), looks := false }, kinds := [], alts := [], laidByText := true, laidKinds := [.data, .data, .pinned], laidTests := true, laidLooks := .later }
def CardOneCardSaid : Prop := Claim7.holds Tryd.pinned (.plain (OpenSpec.ofChange cardOneSpec)) cardOneCard

/-- THE TIED CARD OF 'finesselaw04.CardLess'. -/
def cardLessCard : Claim7 := { stood := { row := cardLessRow, standIns := [], harness := (true, "b18a25bb790ff0ba5c9582d630af5de2e7349fed322c543899abcc7dddc05019"), looks := false }, kinds := [], alts := [], laidByText := true, laidKinds := [.data, .data, .pinned], laidTests := true, laidLooks := .later }
def CardLessCardSaid : Prop := Claim7.holds Tryd.pinned (.plain (OpenSpec.ofChange cardLessSpec)) cardLessCard

/-- THE TIED CARD OF 'finesselaw04.CardOrder'. -/
def cardOrderCard : Claim7 := { stood := { row := cardOrderRow, standIns := [], harness := (true, "b18a25bb790ff0ba5c9582d630af5de2e7349fed322c543899abcc7dddc05019"), looks := false }, kinds := [], alts := [], laidByText := true, laidKinds := [.data, .data, .pinned], laidTests := true, laidLooks := .later }
def CardOrderCardSaid : Prop := Claim7.holds Tryd.pinned (.plain (OpenSpec.ofChange cardOrderSpec)) cardOrderCard

/-- THE TIED CARD OF 'finesselaw04.CardSets'. -/
def cardSetsCard : Claim7 := { stood := { row := cardSetsRow, standIns := [], harness := (true, "b18a25bb790ff0ba5c9582d630af5de2e7349fed322c543899abcc7dddc05019"), looks := false }, kinds := [], alts := [], laidByText := true, laidKinds := [.data, .data, .pinned], laidTests := true, laidLooks := .later }
def CardSetsCardSaid : Prop := Claim7.holds Tryd.pinned (.plain (OpenSpec.ofChange cardSetsSpec)) cardSetsCard

/-- THE TIED CARD OF 'finesselaw04.CardSmall'. -/
def cardSmallCard : Claim7 := { stood := { row := cardSmallRow, standIns := [], harness := (true, "b18a25bb790ff0ba5c9582d630af5de2e7349fed322c543899abcc7dddc05019"), looks := false }, kinds := [], alts := [], laidByText := true, laidKinds := [.data, .data, .pinned], laidTests := true, laidLooks := .later }
def CardSmallCardSaid : Prop := Claim7.holds Tryd.pinned (.plain (OpenSpec.ofChange cardSmallSpec)) cardSmallCard

/-- THE TIED CARD OF 'finesselaw04.CardBack'. -/
def cardBackCard : Claim7 := { stood := { row := cardBackRow, standIns := [], harness := (true, "b18a25bb790ff0ba5c9582d630af5de2e7349fed322c543899abcc7dddc05019"), looks := false }, kinds := [], alts := [], laidByText := true, laidKinds := [.data, .data, .pinned], laidTests := true, laidLooks := .later }
def CardBackCardSaid : Prop := Claim7.holds Tryd.pinned (.plain (OpenSpec.ofChange cardBackSpec)) cardBackCard

/-- THE TIED CARD OF 'finesselaw04.CardWrong'. -/
def cardWrongCard : Claim7 := { stood := { row := cardWrongRow, standIns := [], harness := (true, "b18a25bb790ff0ba5c9582d630af5de2e7349fed322c543899abcc7dddc05019"), looks := false }, kinds := [], alts := [], laidByText := true, laidKinds := [.data, .data, .pinned], laidTests := true, laidLooks := .later }
def CardWrongCardSaid : Prop := Claim7.holds Tryd.pinned (.plain (OpenSpec.ofChange cardWrongSpec)) cardWrongCard

/-- THE SECOND FORM's CARD OF 'finesselaw04.CardTells'. -/
def cardTellsUptoCard : Claim7 := { stood := { row := cardTellsUptoRow, standIns := [], harness := (true, "b18a25bb790ff0ba5c9582d630af5de2e7349fed322c543899abcc7dddc05019"), looks := false }, kinds := [], alts := [], laidByText := true, laidKinds := [.data, .data, .pinned], laidTests := true, laidLooks := .later }
def CardTellsUptoCardSaid : Prop := Claim7.holds Tryd.pinned (.plain (OpenSpec.upto cardTellsSpec)) cardTellsUptoCard

/-- THE SECOND FORM's CARD OF 'finesselaw04.CardOne'. -/
def cardOneUptoCard : Claim7 := { stood := { row := cardOneUptoRow, standIns := [], harness := (true, "b18a25bb790ff0ba5c9582d630af5de2e7349fed322c543899abcc7dddc05019"), looks := false }, kinds := [], alts := [], laidByText := true, laidKinds := [.data, .data, .pinned], laidTests := true, laidLooks := .later }
def CardOneUptoCardSaid : Prop := Claim7.holds Tryd.pinned (.plain (OpenSpec.upto cardOneSpec)) cardOneUptoCard

/-- THE SECOND FORM's CARD OF 'finesselaw04.CardLess'. -/
def cardLessUptoCard : Claim7 := { stood := { row := cardLessUptoRow, standIns := [], harness := (true, "b18a25bb790ff0ba5c9582d630af5de2e7349fed322c543899abcc7dddc05019"), looks := false }, kinds := [], alts := [], laidByText := true, laidKinds := [.data, .data, .pinned], laidTests := true, laidLooks := .later }
def CardLessUptoCardSaid : Prop := Claim7.holds Tryd.pinned (.plain (OpenSpec.upto cardLessSpec)) cardLessUptoCard

/-- THE SECOND FORM's CARD OF 'finesselaw04.CardOrder'. -/
def cardOrderUptoCard : Claim7 := { stood := { row := cardOrderUptoRow, standIns := [], harness := (true, "b18a25bb790ff0ba5c9582d630af5de2e7349fed322c543899abcc7dddc05019"), looks := false }, kinds := [], alts := [], laidByText := true, laidKinds := [.data, .data, .pinned], laidTests := true, laidLooks := .later }
def CardOrderUptoCardSaid : Prop := Claim7.holds Tryd.pinned (.plain (OpenSpec.upto cardOrderSpec)) cardOrderUptoCard

/-- THE SECOND FORM's CARD OF 'finesselaw04.CardSets'. -/
def cardSetsUptoCard : Claim7 := { stood := { row := cardSetsUptoRow, standIns := [], harness := (true, "b18a25bb790ff0ba5c9582d630af5de2e7349fed322c543899abcc7dddc05019"), looks := false }, kinds := [], alts := [], laidByText := true, laidKinds := [.data, .data, .pinned], laidTests := true, laidLooks := .later }
def CardSetsUptoCardSaid : Prop := Claim7.holds Tryd.pinned (.plain (OpenSpec.upto cardSetsSpec)) cardSetsUptoCard

/-- THE SECOND FORM's CARD OF 'finesselaw04.CardSmall'. -/
def cardSmallUptoCard : Claim7 := { stood := { row := cardSmallUptoRow, standIns := [], harness := (true, "b18a25bb790ff0ba5c9582d630af5de2e7349fed322c543899abcc7dddc05019"), looks := false }, kinds := [], alts := [], laidByText := true, laidKinds := [.data, .data, .pinned], laidTests := true, laidLooks := .later }
def CardSmallUptoCardSaid : Prop := Claim7.holds Tryd.pinned (.plain (OpenSpec.upto cardSmallSpec)) cardSmallUptoCard

/-- THE SECOND FORM's CARD OF 'finesselaw04.CardBack'. -/
def cardBackUptoCard : Claim7 := { stood := { row := cardBackUptoRow, standIns := [], harness := (true, "b18a25bb790ff0ba5c9582d630af5de2e7349fed322c543899abcc7dddc05019"), looks := false }, kinds := [], alts := [], laidByText := true, laidKinds := [.data, .data, .pinned], laidTests := true, laidLooks := .later }
def CardBackUptoCardSaid : Prop := Claim7.holds Tryd.pinned (.plain (OpenSpec.upto cardBackSpec)) cardBackUptoCard

/-- THE SECOND FORM's CARD OF 'finesselaw04.CardWrong'. -/
def cardWrongUptoCard : Claim7 := { stood := { row := cardWrongUptoRow, standIns := [], harness := (true, "b18a25bb790ff0ba5c9582d630af5de2e7349fed322c543899abcc7dddc05019"), looks := false }, kinds := [], alts := [], laidByText := true, laidKinds := [.data, .data, .pinned], laidTests := true, laidLooks := .later }
def CardWrongUptoCardSaid : Prop := Claim7.holds Tryd.pinned (.plain (OpenSpec.upto cardWrongSpec)) cardWrongUptoCard
end Rows
end Go.Proofs.YtbocdcnkmcejjaaDoor
