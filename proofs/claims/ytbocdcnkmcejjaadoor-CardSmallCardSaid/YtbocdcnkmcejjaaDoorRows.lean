/-
  NARROWER THAN 'FOR EVERY INPUT', by the rows' own cells (each row's printed sentence says how): CardTells: laid · CardOne: laid · CardLess: laid · CardOrder: laid · CardSets: laid · CardSmall: laid · CardBack: laid · CardWrong: laid.
  DERIVED. THE GIVEN ROWS OF THIS SEAT. 8 by the template 'for every input the law returns true; each argument reads behind the call as it read before'; 0 by the template 'total and deterministic' (their statements: YtbocdcnkmcejjaaDoorTotals.lean).
  GIVEN WITH THE SEED: the statements are not yours to turn. If you find one false, say at which input.
  Laid BY PROGRAM, IN A SANDBOX (cutbox-rows.mjs): the forced cells as the released guide's own fill.sh prints them over the translation 277f9aee3c9eb4fc… (all of the seat's roots in one cut). By AI agents, Wed Nov 11 2026. No macro, syntax, notation, axiom, sorry.
-/
import Derived.Test.YtbocdcnkmcejjaaDoorChecked
import GoSem.PinnedTables
import GoSem.Claim
import GoSem.ClaimJoined
import GoSem.ClaimMapViews
import Derived.JoinedTies
import Derived.KernelRfl
namespace Go.Proofs.YtbocdcnkmcejjaaDoor
/- THE CELL 'sum', in the pinned program and in every row, IS THE sha256 OF THE DUMP (.gsa) THAT YtbocdcnkmcejjaaDoorProg.lean LOADS. Nothing in Lean hashes anything: it is a label: what it is worth is what the hold of that sum in a sandbox is worth. -/
noncomputable def Tryd.pinned : Pinned := { name := "ytbocdcnkmcejjaadoor", sum := "277f9aee3c9eb4fc235d64a6b7613a706145b2ef9ca8679bb7453151874feec5", checked := Tryd.checked }
namespace Rows
def none {H : Type} : Left H := { results := [], args := [] }

/- WHAT THE LISTED PACKAGE-LEVEL VARIABLES READ AS WHEN THE CALL BEGINS. Each datum BY PROGRAM (the guide's laid-datum.mjs) off the statement by which the dump's own 'gosem.cut.vars' lays the variable. In a bare row this is a premise. The card (YtbocdcnkmcejjaaDoorCards.lean) ties it to the program's text. -/
def laid_math_bits_deBruijn64tab {H : Type} : DataW H := .agg [.lit (.int .u8 0), .lit (.int .u8 1), .lit (.int .u8 56), .lit (.int .u8 2), .lit (.int .u8 57), .lit (.int .u8 49), .lit (.int .u8 28), .lit (.int .u8 3), .lit (.int .u8 61), .lit (.int .u8 58), .lit (.int .u8 42), .lit (.int .u8 50), .lit (.int .u8 38), .lit (.int .u8 29), .lit (.int .u8 17), .lit (.int .u8 4), .lit (.int .u8 62), .lit (.int .u8 47), .lit (.int .u8 59), .lit (.int .u8 36), .lit (.int .u8 45), .lit (.int .u8 43), .lit (.int .u8 51), .lit (.int .u8 22), .lit (.int .u8 53), .lit (.int .u8 39), .lit (.int .u8 33), .lit (.int .u8 30), .lit (.int .u8 24), .lit (.int .u8 18), .lit (.int .u8 12), .lit (.int .u8 5), .lit (.int .u8 63), .lit (.int .u8 55), .lit (.int .u8 48), .lit (.int .u8 27), .lit (.int .u8 60), .lit (.int .u8 41), .lit (.int .u8 37), .lit (.int .u8 16), .lit (.int .u8 46), .lit (.int .u8 35), .lit (.int .u8 44), .lit (.int .u8 21), .lit (.int .u8 52), .lit (.int .u8 32), .lit (.int .u8 23), .lit (.int .u8 11), .lit (.int .u8 54), .lit (.int .u8 26), .lit (.int .u8 40), .lit (.int .u8 15), .lit (.int .u8 34), .lit (.int .u8 20), .lit (.int .u8 31), .lit (.int .u8 10), .lit (.int .u8 25), .lit (.int .u8 14), .lit (.int .u8 19), .lit (.int .u8 9), .lit (.int .u8 13), .lit (.int .u8 8), .lit (.int .u8 7), .lit (.int .u8 6)]
def laid_unicode_utf8_acceptRanges {H : Type} : DataW H := .agg [.agg [.lit (.int .u8 128), .lit (.int .u8 191)], .agg [.lit (.int .u8 160), .lit (.int .u8 191)], .agg [.lit (.int .u8 128), .lit (.int .u8 159)], .agg [.lit (.int .u8 144), .lit (.int .u8 191)], .agg [.lit (.int .u8 128), .lit (.int .u8 143)], .agg [.lit (.int .u8 0), .lit (.int .u8 0)], .agg [.lit (.int .u8 0), .lit (.int .u8 0)], .agg [.lit (.int .u8 0), .lit (.int .u8 0)], .agg [.lit (.int .u8 0), .lit (.int .u8 0)], .agg [.lit (.int .u8 0), .lit (.int .u8 0)], .agg [.lit (.int .u8 0), .lit (.int .u8 0)], .agg [.lit (.int .u8 0), .lit (.int .u8 0)], .agg [.lit (.int .u8 0), .lit (.int .u8 0)], .agg [.lit (.int .u8 0), .lit (.int .u8 0)], .agg [.lit (.int .u8 0), .lit (.int .u8 0)], .agg [.lit (.int .u8 0), .lit (.int .u8 0)]]
/-- One of Go's own tables, pinned by name: the form's constant. -/
def laid_unicode_utf8_first : DataW Unit := Go.Pinned.utf8First

/-- 'finesselaw04.CardTells': WHATEVER THE INPUT: true; the input reads as it did. -/
def cardTellsSpec : ChangeSpec := { name := "cardTells", fn := fun _ => fun
  | [d1, d2, d3, d4] => { results := [.lit (.bool true)], args := [d1, d2, d3, d4] }
  | _ => none }
def cardTellsRow : OpenClaim := { program := "ytbocdcnkmcejjaadoor", sum := "277f9aee3c9eb4fc235d64a6b7613a706145b2ef9ca8679bb7453151874feec5", func := "finesse/finesselaw04.CardTells", spec := "cardTells", inPlace := ["internal/bytealg.IndexByteString", "internal/bytealg.CountString", "internal/bytealg.IndexString", "internal/abi.NoEscape", "internal/bytealg.MakeNoZero"], unfollowed := true, recurses := true, named := ["internal/bytealg.MaxLen", "unicode/utf8.first", "unicode/utf8.acceptRanges", "math/bits.deBruijn64tab"], apart := false, laid := [("math/bits.deBruijn64tab", laid_math_bits_deBruijn64tab), ("unicode/utf8.acceptRanges", laid_unicode_utf8_acceptRanges), ("unicode/utf8.first", laid_unicode_utf8_first)] }
def CardTellsSaid : Prop := cardTellsRow.holds Tryd.pinned (OpenSpec.ofChange cardTellsSpec)

/-- ITS FALSE NEIGHBOUR: 'it returns false'. Refute it at one input. -/
def cardTellsWrong : ChangeSpec := { name := "cardTells", fn := fun _ => fun
  | [d1, d2, d3, d4] => { results := [.lit (.bool false)], args := [d1, d2, d3, d4] }
  | _ => none }
def CardTellsWrongFalsely : Prop := cardTellsRow.holds Tryd.pinned (OpenSpec.ofChange cardTellsWrong)

/-- 'finesselaw04.CardOne': WHATEVER THE INPUT: true; the input reads as it did. -/
def cardOneSpec : ChangeSpec := { name := "cardOne", fn := fun _ => fun
  | [d] => { results := [.lit (.bool true)], args := [d] }
  | _ => none }
def cardOneRow : OpenClaim := { program := "ytbocdcnkmcejjaadoor", sum := "277f9aee3c9eb4fc235d64a6b7613a706145b2ef9ca8679bb7453151874feec5", func := "finesse/finesselaw04.CardOne", spec := "cardOne", inPlace := ["internal/bytealg.IndexByteString", "internal/abi.NoEscape", "internal/bytealg.MakeNoZero", "internal/bytealg.CountString", "internal/bytealg.IndexString"], unfollowed := true, recurses := true, named := ["internal/bytealg.MaxLen", "unicode/utf8.first", "unicode/utf8.acceptRanges", "math/bits.deBruijn64tab"], apart := false, laid := [("math/bits.deBruijn64tab", laid_math_bits_deBruijn64tab), ("unicode/utf8.acceptRanges", laid_unicode_utf8_acceptRanges), ("unicode/utf8.first", laid_unicode_utf8_first)] }
def CardOneSaid : Prop := cardOneRow.holds Tryd.pinned (OpenSpec.ofChange cardOneSpec)

/-- ITS FALSE NEIGHBOUR: 'it returns false'. Refute it at one input. -/
def cardOneWrong : ChangeSpec := { name := "cardOne", fn := fun _ => fun
  | [d] => { results := [.lit (.bool false)], args := [d] }
  | _ => none }
def CardOneWrongFalsely : Prop := cardOneRow.holds Tryd.pinned (OpenSpec.ofChange cardOneWrong)

/-- 'finesselaw04.CardLess': WHATEVER THE INPUT: true; the input reads as it did. -/
def cardLessSpec : ChangeSpec := { name := "cardLess", fn := fun _ => fun
  | [d1, d2] => { results := [.lit (.bool true)], args := [d1, d2] }
  | _ => none }
def cardLessRow : OpenClaim := { program := "ytbocdcnkmcejjaadoor", sum := "277f9aee3c9eb4fc235d64a6b7613a706145b2ef9ca8679bb7453151874feec5", func := "finesse/finesselaw04.CardLess", spec := "cardLess", inPlace := ["internal/bytealg.IndexByteString", "internal/bytealg.CountString", "internal/bytealg.IndexString", "internal/abi.NoEscape", "internal/bytealg.MakeNoZero"], unfollowed := true, recurses := true, named := ["internal/bytealg.MaxLen", "unicode/utf8.first", "unicode/utf8.acceptRanges", "math/bits.deBruijn64tab"], apart := false, laid := [("math/bits.deBruijn64tab", laid_math_bits_deBruijn64tab), ("unicode/utf8.acceptRanges", laid_unicode_utf8_acceptRanges), ("unicode/utf8.first", laid_unicode_utf8_first)] }
def CardLessSaid : Prop := cardLessRow.holds Tryd.pinned (OpenSpec.ofChange cardLessSpec)

/-- ITS FALSE NEIGHBOUR: 'it returns false'. Refute it at one input. -/
def cardLessWrong : ChangeSpec := { name := "cardLess", fn := fun _ => fun
  | [d1, d2] => { results := [.lit (.bool false)], args := [d1, d2] }
  | _ => none }
def CardLessWrongFalsely : Prop := cardLessRow.holds Tryd.pinned (OpenSpec.ofChange cardLessWrong)

/-- 'finesselaw04.CardOrder': WHATEVER THE INPUT: true; the input reads as it did. -/
def cardOrderSpec : ChangeSpec := { name := "cardOrder", fn := fun _ => fun
  | [d] => { results := [.lit (.bool true)], args := [d] }
  | _ => none }
def cardOrderRow : OpenClaim := { program := "ytbocdcnkmcejjaadoor", sum := "277f9aee3c9eb4fc235d64a6b7613a706145b2ef9ca8679bb7453151874feec5", func := "finesse/finesselaw04.CardOrder", spec := "cardOrder", inPlace := ["internal/bytealg.IndexByteString", "internal/bytealg.CountString", "internal/bytealg.IndexString", "internal/abi.NoEscape", "internal/bytealg.MakeNoZero"], unfollowed := true, recurses := true, named := ["math/bits.deBruijn64tab", "internal/bytealg.MaxLen", "unicode/utf8.first", "unicode/utf8.acceptRanges"], apart := false, laid := [("math/bits.deBruijn64tab", laid_math_bits_deBruijn64tab), ("unicode/utf8.acceptRanges", laid_unicode_utf8_acceptRanges), ("unicode/utf8.first", laid_unicode_utf8_first)] }
def CardOrderSaid : Prop := cardOrderRow.holds Tryd.pinned (OpenSpec.ofChange cardOrderSpec)

/-- ITS FALSE NEIGHBOUR: 'it returns false'. Refute it at one input. -/
def cardOrderWrong : ChangeSpec := { name := "cardOrder", fn := fun _ => fun
  | [d] => { results := [.lit (.bool false)], args := [d] }
  | _ => none }
def CardOrderWrongFalsely : Prop := cardOrderRow.holds Tryd.pinned (OpenSpec.ofChange cardOrderWrong)

/-- 'finesselaw04.CardSets': WHATEVER THE INPUT: true; the input reads as it did. -/
def cardSetsSpec : ChangeSpec := { name := "cardSets", fn := fun _ => fun
  | [d1, d2, d3] => { results := [.lit (.bool true)], args := [d1, d2, d3] }
  | _ => none }
def cardSetsRow : OpenClaim := { program := "ytbocdcnkmcejjaadoor", sum := "277f9aee3c9eb4fc235d64a6b7613a706145b2ef9ca8679bb7453151874feec5", func := "finesse/finesselaw04.CardSets", spec := "cardSets", inPlace := ["internal/abi.NoEscape", "internal/bytealg.MakeNoZero", "internal/bytealg.CountString", "internal/bytealg.IndexByteString", "internal/bytealg.IndexString"], unfollowed := true, recurses := true, named := ["internal/bytealg.MaxLen", "unicode/utf8.first", "unicode/utf8.acceptRanges", "math/bits.deBruijn64tab"], apart := false, laid := [("math/bits.deBruijn64tab", laid_math_bits_deBruijn64tab), ("unicode/utf8.acceptRanges", laid_unicode_utf8_acceptRanges), ("unicode/utf8.first", laid_unicode_utf8_first)] }
def CardSetsSaid : Prop := cardSetsRow.holds Tryd.pinned (OpenSpec.ofChange cardSetsSpec)

/-- ITS FALSE NEIGHBOUR: 'it returns false'. Refute it at one input. -/
def cardSetsWrong : ChangeSpec := { name := "cardSets", fn := fun _ => fun
  | [d1, d2, d3] => { results := [.lit (.bool false)], args := [d1, d2, d3] }
  | _ => none }
def CardSetsWrongFalsely : Prop := cardSetsRow.holds Tryd.pinned (OpenSpec.ofChange cardSetsWrong)

/-- 'finesselaw04.CardSmall': WHATEVER THE INPUT: true; the input reads as it did. -/
def cardSmallSpec : ChangeSpec := { name := "cardSmall", fn := fun _ => fun
  | [] => { results := [.lit (.bool true)], args := [] }
  | _ => none }
def cardSmallRow : OpenClaim := { program := "ytbocdcnkmcejjaadoor", sum := "277f9aee3c9eb4fc235d64a6b7613a706145b2ef9ca8679bb7453151874feec5", func := "finesse/finesselaw04.CardSmall", spec := "cardSmall", inPlace := ["internal/bytealg.IndexByteString", "internal/abi.NoEscape", "internal/bytealg.MakeNoZero", "internal/bytealg.CountString", "internal/bytealg.IndexString"], unfollowed := true, recurses := true, named := ["internal/bytealg.MaxLen", "unicode/utf8.first", "unicode/utf8.acceptRanges", "math/bits.deBruijn64tab"], apart := false, laid := [("math/bits.deBruijn64tab", laid_math_bits_deBruijn64tab), ("unicode/utf8.acceptRanges", laid_unicode_utf8_acceptRanges), ("unicode/utf8.first", laid_unicode_utf8_first)] }
def CardSmallSaid : Prop := cardSmallRow.holds Tryd.pinned (OpenSpec.ofChange cardSmallSpec)

/-- ITS FALSE NEIGHBOUR: 'it returns false'. Refute it at one input. -/
def cardSmallWrong : ChangeSpec := { name := "cardSmall", fn := fun _ => fun
  | [] => { results := [.lit (.bool false)], args := [] }
  | _ => none }
def CardSmallWrongFalsely : Prop := cardSmallRow.holds Tryd.pinned (OpenSpec.ofChange cardSmallWrong)

/-- 'finesselaw04.CardBack': WHATEVER THE INPUT: true; the input reads as it did. -/
def cardBackSpec : ChangeSpec := { name := "cardBack", fn := fun _ => fun
  | [d1, d2, d3, d4] => { results := [.lit (.bool true)], args := [d1, d2, d3, d4] }
  | _ => none }
def cardBackRow : OpenClaim := { program := "ytbocdcnkmcejjaadoor", sum := "277f9aee3c9eb4fc235d64a6b7613a706145b2ef9ca8679bb7453151874feec5", func := "finesse/finesselaw04.CardBack", spec := "cardBack", inPlace := ["internal/abi.NoEscape", "internal/bytealg.MakeNoZero", "internal/bytealg.CountString", "internal/bytealg.IndexByteString", "internal/bytealg.IndexString"], unfollowed := true, recurses := true, named := ["internal/bytealg.MaxLen", "unicode/utf8.first", "unicode/utf8.acceptRanges", "math/bits.deBruijn64tab"], apart := false, laid := [("math/bits.deBruijn64tab", laid_math_bits_deBruijn64tab), ("unicode/utf8.acceptRanges", laid_unicode_utf8_acceptRanges), ("unicode/utf8.first", laid_unicode_utf8_first)] }
def CardBackSaid : Prop := cardBackRow.holds Tryd.pinned (OpenSpec.ofChange cardBackSpec)

/-- ITS FALSE NEIGHBOUR: 'it returns false'. Refute it at one input. -/
def cardBackWrong : ChangeSpec := { name := "cardBack", fn := fun _ => fun
  | [d1, d2, d3, d4] => { results := [.lit (.bool false)], args := [d1, d2, d3, d4] }
  | _ => none }
def CardBackWrongFalsely : Prop := cardBackRow.holds Tryd.pinned (OpenSpec.ofChange cardBackWrong)

/-- 'finesselaw04.CardWrong': WHATEVER THE INPUT: true; the input reads as it did. -/
def cardWrongSpec : ChangeSpec := { name := "cardWrong", fn := fun _ => fun
  | [d1, d2, d3, d4] => { results := [.lit (.bool true)], args := [d1, d2, d3, d4] }
  | _ => none }
def cardWrongRow : OpenClaim := { program := "ytbocdcnkmcejjaadoor", sum := "277f9aee3c9eb4fc235d64a6b7613a706145b2ef9ca8679bb7453151874feec5", func := "finesse/finesselaw04.CardWrong", spec := "cardWrong", inPlace := ["internal/abi.NoEscape", "internal/bytealg.MakeNoZero", "internal/bytealg.CountString", "internal/bytealg.IndexByteString", "internal/bytealg.IndexString"], unfollowed := true, recurses := true, named := ["math/bits.deBruijn64tab", "internal/bytealg.MaxLen", "unicode/utf8.first", "unicode/utf8.acceptRanges"], apart := false, laid := [("math/bits.deBruijn64tab", laid_math_bits_deBruijn64tab), ("unicode/utf8.acceptRanges", laid_unicode_utf8_acceptRanges), ("unicode/utf8.first", laid_unicode_utf8_first)] }
def CardWrongSaid : Prop := cardWrongRow.holds Tryd.pinned (OpenSpec.ofChange cardWrongSpec)

/-- ITS FALSE NEIGHBOUR: 'it returns false'. Refute it at one input. -/
def cardWrongWrong : ChangeSpec := { name := "cardWrong", fn := fun _ => fun
  | [d1, d2, d3, d4] => { results := [.lit (.bool false)], args := [d1, d2, d3, d4] }
  | _ => none }
def CardWrongWrongFalsely : Prop := cardWrongRow.holds Tryd.pinned (OpenSpec.ofChange cardWrongWrong)

/- THE SECOND FORM. 'bulk': how many values and letters a reading holds, each counted each time it is reached (what is shared counts as often as it is met; a slice's spare places count too). A statement '..UptoSaid' is the law's where the arguments, and the package variables that the reading takes, are together of bulk at most 1048576: NARROWER than '..Said'. Prove '..Said' where nothing that the law and all that it calls make is longer than what came in: it says more and counts as full. Else prove '..UptoSaid'. A law counts once. -/
mutual
def uptoBulk {H : Type} : DataW H → Nat
  | .lit (.string bytes) => bytes.length + 1
  | .lit _ => 1
  | .nil => 1
  | .ptr d => uptoBulk d + 1
  | .slice elems spare => uptoBulkAll elems + uptoBulkAll spare + 1
  | .agg parts => uptoBulkAll parts + 1
  | .iface _ d => uptoBulk d + 1
  | .map entries => uptoBulkEntries entries + 1
  | .held _ => 1
def uptoBulkAll {H : Type} : List (DataW H) → Nat
  | [] => 0
  | d :: r => uptoBulk d + uptoBulkAll r
def uptoBulkEntries {H : Type} : List (Lit × DataW H) → Nat
  | [] => 0
  | x :: r => uptoBulkEntry x + uptoBulkEntries r
def uptoBulkEntry {H : Type} : Lit × DataW H → Nat
  | (.string bytes, d) => bytes.length + uptoBulk d + 1
  | (_, d) => uptoBulk d + 1
 end
def uptoSmall : (H : Type) → List (DataW H) → Bool := fun _ ds => decide (uptoBulkAll ds ≤ 1048576)
def OpenSpec.upto (s : _root_.Go.ChangeSpec) : _root_.Go.OpenSpec := { _root_.Go.OpenSpec.ofChange s with cond := some uptoSmall }

/-- 'finesselaw04.CardTells', WHERE WHAT IT READS IS OF BULK AT MOST 1048576: true; the input reads as it did. -/
def cardTellsUptoRow : OpenClaim := { program := "ytbocdcnkmcejjaadoor", sum := "277f9aee3c9eb4fc235d64a6b7613a706145b2ef9ca8679bb7453151874feec5", func := "finesse/finesselaw04.CardTells", spec := "cardTells", inPlace := ["internal/bytealg.IndexByteString", "internal/bytealg.CountString", "internal/bytealg.IndexString", "internal/abi.NoEscape", "internal/bytealg.MakeNoZero"], unfollowed := true, recurses := true, named := ["internal/bytealg.MaxLen", "unicode/utf8.first", "unicode/utf8.acceptRanges", "math/bits.deBruijn64tab"], apart := false, laid := [("math/bits.deBruijn64tab", laid_math_bits_deBruijn64tab), ("unicode/utf8.acceptRanges", laid_unicode_utf8_acceptRanges), ("unicode/utf8.first", laid_unicode_utf8_first)], narrowed := true }
def CardTellsUptoSaid : Prop := cardTellsUptoRow.holds Tryd.pinned (OpenSpec.upto cardTellsSpec)

/-- 'finesselaw04.CardOne', WHERE WHAT IT READS IS OF BULK AT MOST 1048576: true; the input reads as it did. -/
def cardOneUptoRow : OpenClaim := { program := "ytbocdcnkmcejjaadoor", sum := "277f9aee3c9eb4fc235d64a6b7613a706145b2ef9ca8679bb7453151874feec5", func := "finesse/finesselaw04.CardOne", spec := "cardOne", inPlace := ["internal/bytealg.IndexByteString", "internal/abi.NoEscape", "internal/bytealg.MakeNoZero", "internal/bytealg.CountString", "internal/bytealg.IndexString"], unfollowed := true, recurses := true, named := ["internal/bytealg.MaxLen", "unicode/utf8.first", "unicode/utf8.acceptRanges", "math/bits.deBruijn64tab"], apart := false, laid := [("math/bits.deBruijn64tab", laid_math_bits_deBruijn64tab), ("unicode/utf8.acceptRanges", laid_unicode_utf8_acceptRanges), ("unicode/utf8.first", laid_unicode_utf8_first)], narrowed := true }
def CardOneUptoSaid : Prop := cardOneUptoRow.holds Tryd.pinned (OpenSpec.upto cardOneSpec)

/-- 'finesselaw04.CardLess', WHERE WHAT IT READS IS OF BULK AT MOST 1048576: true; the input reads as it did. -/
def cardLessUptoRow : OpenClaim := { program := "ytbocdcnkmcejjaadoor", sum := "277f9aee3c9eb4fc235d64a6b7613a706145b2ef9ca8679bb7453151874feec5", func := "finesse/finesselaw04.CardLess", spec := "cardLess", inPlace := ["internal/bytealg.IndexByteString", "internal/bytealg.CountString", "internal/bytealg.IndexString", "internal/abi.NoEscape", "internal/bytealg.MakeNoZero"], unfollowed := true, recurses := true, named := ["internal/bytealg.MaxLen", "unicode/utf8.first", "unicode/utf8.acceptRanges", "math/bits.deBruijn64tab"], apart := false, laid := [("math/bits.deBruijn64tab", laid_math_bits_deBruijn64tab), ("unicode/utf8.acceptRanges", laid_unicode_utf8_acceptRanges), ("unicode/utf8.first", laid_unicode_utf8_first)], narrowed := true }
def CardLessUptoSaid : Prop := cardLessUptoRow.holds Tryd.pinned (OpenSpec.upto cardLessSpec)

/-- 'finesselaw04.CardOrder', WHERE WHAT IT READS IS OF BULK AT MOST 1048576: true; the input reads as it did. -/
def cardOrderUptoRow : OpenClaim := { program := "ytbocdcnkmcejjaadoor", sum := "277f9aee3c9eb4fc235d64a6b7613a706145b2ef9ca8679bb7453151874feec5", func := "finesse/finesselaw04.CardOrder", spec := "cardOrder", inPlace := ["internal/bytealg.IndexByteString", "internal/bytealg.CountString", "internal/bytealg.IndexString", "internal/abi.NoEscape", "internal/bytealg.MakeNoZero"], unfollowed := true, recurses := true, named := ["math/bits.deBruijn64tab", "internal/bytealg.MaxLen", "unicode/utf8.first", "unicode/utf8.acceptRanges"], apart := false, laid := [("math/bits.deBruijn64tab", laid_math_bits_deBruijn64tab), ("unicode/utf8.acceptRanges", laid_unicode_utf8_acceptRanges), ("unicode/utf8.first", laid_unicode_utf8_first)], narrowed := true }
def CardOrderUptoSaid : Prop := cardOrderUptoRow.holds Tryd.pinned (OpenSpec.upto cardOrderSpec)

/-- 'finesselaw04.CardSets', WHERE WHAT IT READS IS OF BULK AT MOST 1048576: true; the input reads as it did. -/
def cardSetsUptoRow : OpenClaim := { program := "ytbocdcnkmcejjaadoor", sum := "277f9aee3c9eb4fc235d64a6b7613a706145b2ef9ca8679bb7453151874feec5", func := "finesse/finesselaw04.CardSets", spec := "cardSets", inPlace := ["internal/abi.NoEscape", "internal/bytealg.MakeNoZero", "internal/bytealg.CountString", "internal/bytealg.IndexByteString", "internal/bytealg.IndexString"], unfollowed := true, recurses := true, named := ["internal/bytealg.MaxLen", "unicode/utf8.first", "unicode/utf8.acceptRanges", "math/bits.deBruijn64tab"], apart := false, laid := [("math/bits.deBruijn64tab", laid_math_bits_deBruijn64tab), ("unicode/utf8.acceptRanges", laid_unicode_utf8_acceptRanges), ("unicode/utf8.first", laid_unicode_utf8_first)], narrowed := true }
def CardSetsUptoSaid : Prop := cardSetsUptoRow.holds Tryd.pinned (OpenSpec.upto cardSetsSpec)

/-- 'finesselaw04.CardSmall', WHERE WHAT IT READS IS OF BULK AT MOST 1048576: true; the input reads as it did. -/
def cardSmallUptoRow : OpenClaim := { program := "ytbocdcnkmcejjaadoor", sum := "277f9aee3c9eb4fc235d64a6b7613a706145b2ef9ca8679bb7453151874feec5", func := "finesse/finesselaw04.CardSmall", spec := "cardSmall", inPlace := ["internal/bytealg.IndexByteString", "internal/abi.NoEscape", "internal/bytealg.MakeNoZero", "internal/bytealg.CountString", "internal/bytealg.IndexString"], unfollowed := true, recurses := true, named := ["internal/bytealg.MaxLen", "unicode/utf8.first", "unicode/utf8.acceptRanges", "math/bits.deBruijn64tab"], apart := false, laid := [("math/bits.deBruijn64tab", laid_math_bits_deBruijn64tab), ("unicode/utf8.acceptRanges", laid_unicode_utf8_acceptRanges), ("unicode/utf8.first", laid_unicode_utf8_first)], narrowed := true }
def CardSmallUptoSaid : Prop := cardSmallUptoRow.holds Tryd.pinned (OpenSpec.upto cardSmallSpec)

/-- 'finesselaw04.CardBack', WHERE WHAT IT READS IS OF BULK AT MOST 1048576: true; the input reads as it did. -/
def cardBackUptoRow : OpenClaim := { program := "ytbocdcnkmcejjaadoor", sum := "277f9aee3c9eb4fc235d64a6b7613a706145b2ef9ca8679bb7453151874feec5", func := "finesse/finesselaw04.CardBack", spec := "cardBack", inPlace := ["internal/abi.NoEscape", "internal/bytealg.MakeNoZero", "internal/bytealg.CountString", "internal/bytealg.IndexByteString", "internal/bytealg.IndexString"], unfollowed := true, recurses := true, named := ["internal/bytealg.MaxLen", "unicode/utf8.first", "unicode/utf8.acceptRanges", "math/bits.deBruijn64tab"], apart := false, laid := [("math/bits.deBruijn64tab", laid_math_bits_deBruijn64tab), ("unicode/utf8.acceptRanges", laid_unicode_utf8_acceptRanges), ("unicode/utf8.first", laid_unicode_utf8_first)], narrowed := true }
def CardBackUptoSaid : Prop := cardBackUptoRow.holds Tryd.pinned (OpenSpec.upto cardBackSpec)

/-- 'finesselaw04.CardWrong', WHERE WHAT IT READS IS OF BULK AT MOST 1048576: true; the input reads as it did. -/
def cardWrongUptoRow : OpenClaim := { program := "ytbocdcnkmcejjaadoor", sum := "277f9aee3c9eb4fc235d64a6b7613a706145b2ef9ca8679bb7453151874feec5", func := "finesse/finesselaw04.CardWrong", spec := "cardWrong", inPlace := ["internal/abi.NoEscape", "internal/bytealg.MakeNoZero", "internal/bytealg.CountString", "internal/bytealg.IndexByteString", "internal/bytealg.IndexString"], unfollowed := true, recurses := true, named := ["math/bits.deBruijn64tab", "internal/bytealg.MaxLen", "unicode/utf8.first", "unicode/utf8.acceptRanges"], apart := false, laid := [("math/bits.deBruijn64tab", laid_math_bits_deBruijn64tab), ("unicode/utf8.acceptRanges", laid_unicode_utf8_acceptRanges), ("unicode/utf8.first", laid_unicode_utf8_first)], narrowed := true }
def CardWrongUptoSaid : Prop := cardWrongUptoRow.holds Tryd.pinned (OpenSpec.upto cardWrongSpec)

end Rows
end Go.Proofs.YtbocdcnkmcejjaaDoor
