/-
  NARROWER THAN 'FOR EVERY INPUT', by the rows' own cells (each row's printed sentence says how): AuctionLeader: laid · AuctionTurned: laid · AuctionTells: laid · AuctionWrong: laid · AuctionLegal: laid · AuctionEnds: laid · AuctionReads: laid · AuctionBack: laid · AuctionSmall: laid.
  DERIVED. THE GIVEN ROWS OF THIS SEAT. 9 by the template 'for every input the law returns true; each argument reads behind the call as it read before'; 0 by the template 'total and deterministic' (their statements: YtnhilofmafjdpaaDoorTotals.lean).
  GIVEN WITH THE SEED: the statements are not yours to turn. If you find one false, say at which input.
  Laid BY PROGRAM, IN A SANDBOX (cutbox-rows.mjs): the forced cells as the released guide's own fill.sh prints them over the translation d09c561796345ab1… (all of the seat's roots in one cut). By AI agents, Wed Nov 11 2026. No macro, syntax, notation, axiom, sorry.
-/
import Derived.Test.YtnhilofmafjdpaaDoorChecked
import GoSem.PinnedTables
import GoSem.Claim
import GoSem.ClaimJoined
import GoSem.ClaimMapViews
import Derived.JoinedTies
import Derived.KernelRfl
namespace Go.Proofs.YtnhilofmafjdpaaDoor
/- THE CELL 'sum', in the pinned program and in every row, IS THE sha256 OF THE DUMP (.gsa) THAT YtnhilofmafjdpaaDoorProg.lean LOADS. Nothing in Lean hashes anything: it is a label: what it is worth is what the hold of that sum in a sandbox is worth. -/
noncomputable def Tryd.pinned : Pinned := { name := "ytnhilofmafjdpaadoor", sum := "d09c561796345ab1c29209aecdc273cf8f3aeaf780f3a35573ec03cc1c7d9b52", checked := Tryd.checked }
namespace Rows
def none {H : Type} : Left H := { results := [], args := [] }

/- WHAT THE LISTED PACKAGE-LEVEL VARIABLES READ AS WHEN THE CALL BEGINS. Each datum BY PROGRAM (the guide's laid-datum.mjs) off the statement by which the dump's own 'gosem.cut.vars' lays the variable. In a bare row this is a premise. The card (YtnhilofmafjdpaaDoorCards.lean) ties it to the program's text. -/
def laid_finesse_call_texts {H : Type} : DataW H := .agg [.lit (.string [80]), .lit (.string [88]), .lit (.string [88, 88]), .lit (.string [49, 67]), .lit (.string [49, 68]), .lit (.string [49, 72]), .lit (.string [49, 83]), .lit (.string [49, 78, 84]), .lit (.string [50, 67]), .lit (.string [50, 68]), .lit (.string [50, 72]), .lit (.string [50, 83]), .lit (.string [50, 78, 84]), .lit (.string [51, 67]), .lit (.string [51, 68]), .lit (.string [51, 72]), .lit (.string [51, 83]), .lit (.string [51, 78, 84]), .lit (.string [52, 67]), .lit (.string [52, 68]), .lit (.string [52, 72]), .lit (.string [52, 83]), .lit (.string [52, 78, 84]), .lit (.string [53, 67]), .lit (.string [53, 68]), .lit (.string [53, 72]), .lit (.string [53, 83]), .lit (.string [53, 78, 84]), .lit (.string [54, 67]), .lit (.string [54, 68]), .lit (.string [54, 72]), .lit (.string [54, 83]), .lit (.string [54, 78, 84]), .lit (.string [55, 67]), .lit (.string [55, 68]), .lit (.string [55, 72]), .lit (.string [55, 83]), .lit (.string [55, 78, 84])]
def laid_unicode_utf8_acceptRanges {H : Type} : DataW H := .agg [.agg [.lit (.int .u8 128), .lit (.int .u8 191)], .agg [.lit (.int .u8 160), .lit (.int .u8 191)], .agg [.lit (.int .u8 128), .lit (.int .u8 159)], .agg [.lit (.int .u8 144), .lit (.int .u8 191)], .agg [.lit (.int .u8 128), .lit (.int .u8 143)], .agg [.lit (.int .u8 0), .lit (.int .u8 0)], .agg [.lit (.int .u8 0), .lit (.int .u8 0)], .agg [.lit (.int .u8 0), .lit (.int .u8 0)], .agg [.lit (.int .u8 0), .lit (.int .u8 0)], .agg [.lit (.int .u8 0), .lit (.int .u8 0)], .agg [.lit (.int .u8 0), .lit (.int .u8 0)], .agg [.lit (.int .u8 0), .lit (.int .u8 0)], .agg [.lit (.int .u8 0), .lit (.int .u8 0)], .agg [.lit (.int .u8 0), .lit (.int .u8 0)], .agg [.lit (.int .u8 0), .lit (.int .u8 0)], .agg [.lit (.int .u8 0), .lit (.int .u8 0)]]
/-- One of Go's own tables, pinned by name: the form's constant. -/
def laid_unicode_utf8_first : DataW Unit := Go.Pinned.utf8First

/-- 'finesselaw09.AuctionLeader': WHATEVER THE INPUT: true; the input reads as it did. -/
def auctionLeaderSpec : ChangeSpec := { name := "auctionLeader", fn := fun _ => fun
  | [d] => { results := [.lit (.bool true)], args := [d] }
  | _ => none }
def auctionLeaderRow : OpenClaim := { program := "ytnhilofmafjdpaadoor", sum := "d09c561796345ab1c29209aecdc273cf8f3aeaf780f3a35573ec03cc1c7d9b52", func := "finesse/finesselaw09.AuctionLeader", spec := "auctionLeader", inPlace := ["internal/bytealg.IndexByteString", "internal/bytealg.IndexString", "internal/abi.NoEscape", "internal/bytealg.MakeNoZero"], unfollowed := true, recurses := true, named := ["internal/bytealg.MaxLen", "finesse/call.texts"], apart := false, laid := [("finesse/call.texts", laid_finesse_call_texts)] }
def AuctionLeaderSaid : Prop := auctionLeaderRow.holds Tryd.pinned (OpenSpec.ofChange auctionLeaderSpec)

/-- ITS FALSE NEIGHBOUR: 'it returns false'. Refute it at one input. -/
def auctionLeaderWrong : ChangeSpec := { name := "auctionLeader", fn := fun _ => fun
  | [d] => { results := [.lit (.bool false)], args := [d] }
  | _ => none }
def AuctionLeaderWrongFalsely : Prop := auctionLeaderRow.holds Tryd.pinned (OpenSpec.ofChange auctionLeaderWrong)

/-- 'finesselaw09.AuctionTurned': WHATEVER THE INPUT: true; the input reads as it did. -/
def auctionTurnedSpec : ChangeSpec := { name := "auctionTurned", fn := fun _ => fun
  | [d1, d2, d3] => { results := [.lit (.bool true)], args := [d1, d2, d3] }
  | _ => none }
def auctionTurnedRow : OpenClaim := { program := "ytnhilofmafjdpaadoor", sum := "d09c561796345ab1c29209aecdc273cf8f3aeaf780f3a35573ec03cc1c7d9b52", func := "finesse/finesselaw09.AuctionTurned", spec := "auctionTurned", inPlace := ["internal/bytealg.IndexByteString", "internal/bytealg.IndexString", "internal/abi.NoEscape", "internal/bytealg.MakeNoZero"], unfollowed := true, recurses := true, named := ["internal/bytealg.MaxLen", "finesse/call.texts"], apart := false, laid := [("finesse/call.texts", laid_finesse_call_texts)] }
def AuctionTurnedSaid : Prop := auctionTurnedRow.holds Tryd.pinned (OpenSpec.ofChange auctionTurnedSpec)

/-- ITS FALSE NEIGHBOUR: 'it returns false'. Refute it at one input. -/
def auctionTurnedWrong : ChangeSpec := { name := "auctionTurned", fn := fun _ => fun
  | [d1, d2, d3] => { results := [.lit (.bool false)], args := [d1, d2, d3] }
  | _ => none }
def AuctionTurnedWrongFalsely : Prop := auctionTurnedRow.holds Tryd.pinned (OpenSpec.ofChange auctionTurnedWrong)

/-- 'finesselaw09.AuctionTells': WHATEVER THE INPUT: true; the input reads as it did. -/
def auctionTellsSpec : ChangeSpec := { name := "auctionTells", fn := fun _ => fun
  | [d1, d2] => { results := [.lit (.bool true)], args := [d1, d2] }
  | _ => none }
def auctionTellsRow : OpenClaim := { program := "ytnhilofmafjdpaadoor", sum := "d09c561796345ab1c29209aecdc273cf8f3aeaf780f3a35573ec03cc1c7d9b52", func := "finesse/finesselaw09.AuctionTells", spec := "auctionTells", inPlace := ["internal/abi.NoEscape", "internal/bytealg.MakeNoZero", "internal/bytealg.IndexByteString", "internal/bytealg.IndexString"], unfollowed := true, recurses := true, named := ["finesse/call.texts", "internal/bytealg.MaxLen"], apart := false, laid := [("finesse/call.texts", laid_finesse_call_texts)] }
def AuctionTellsSaid : Prop := auctionTellsRow.holds Tryd.pinned (OpenSpec.ofChange auctionTellsSpec)

/-- ITS FALSE NEIGHBOUR: 'it returns false'. Refute it at one input. -/
def auctionTellsWrong : ChangeSpec := { name := "auctionTells", fn := fun _ => fun
  | [d1, d2] => { results := [.lit (.bool false)], args := [d1, d2] }
  | _ => none }
def AuctionTellsWrongFalsely : Prop := auctionTellsRow.holds Tryd.pinned (OpenSpec.ofChange auctionTellsWrong)

/-- 'finesselaw09.AuctionWrong': WHATEVER THE INPUT: true; the input reads as it did. -/
def auctionWrongSpec : ChangeSpec := { name := "auctionWrong", fn := fun _ => fun
  | [d1, d2, d3, d4] => { results := [.lit (.bool true)], args := [d1, d2, d3, d4] }
  | _ => none }
def auctionWrongRow : OpenClaim := { program := "ytnhilofmafjdpaadoor", sum := "d09c561796345ab1c29209aecdc273cf8f3aeaf780f3a35573ec03cc1c7d9b52", func := "finesse/finesselaw09.AuctionWrong", spec := "auctionWrong", inPlace := ["internal/bytealg.IndexByteString", "internal/bytealg.IndexString", "internal/abi.NoEscape", "internal/bytealg.MakeNoZero"], unfollowed := true, recurses := true, named := ["internal/bytealg.MaxLen", "finesse/call.texts"], apart := false, laid := [("finesse/call.texts", laid_finesse_call_texts)] }
def AuctionWrongSaid : Prop := auctionWrongRow.holds Tryd.pinned (OpenSpec.ofChange auctionWrongSpec)

/-- ITS FALSE NEIGHBOUR: 'it returns false'. Refute it at one input. -/
def auctionWrongWrong : ChangeSpec := { name := "auctionWrong", fn := fun _ => fun
  | [d1, d2, d3, d4] => { results := [.lit (.bool false)], args := [d1, d2, d3, d4] }
  | _ => none }
def AuctionWrongWrongFalsely : Prop := auctionWrongRow.holds Tryd.pinned (OpenSpec.ofChange auctionWrongWrong)

/-- 'finesselaw09.AuctionLegal': WHATEVER THE INPUT: true; the input reads as it did. -/
def auctionLegalSpec : ChangeSpec := { name := "auctionLegal", fn := fun _ => fun
  | [d1, d2, d3] => { results := [.lit (.bool true)], args := [d1, d2, d3] }
  | _ => none }
def auctionLegalRow : OpenClaim := { program := "ytnhilofmafjdpaadoor", sum := "d09c561796345ab1c29209aecdc273cf8f3aeaf780f3a35573ec03cc1c7d9b52", func := "finesse/finesselaw09.AuctionLegal", spec := "auctionLegal", inPlace := ["internal/bytealg.IndexByteString", "internal/bytealg.IndexString", "internal/abi.NoEscape", "internal/bytealg.MakeNoZero"], unfollowed := true, recurses := true, named := ["internal/bytealg.MaxLen", "finesse/call.texts"], apart := false, laid := [("finesse/call.texts", laid_finesse_call_texts)] }
def AuctionLegalSaid : Prop := auctionLegalRow.holds Tryd.pinned (OpenSpec.ofChange auctionLegalSpec)

/-- ITS FALSE NEIGHBOUR: 'it returns false'. Refute it at one input. -/
def auctionLegalWrong : ChangeSpec := { name := "auctionLegal", fn := fun _ => fun
  | [d1, d2, d3] => { results := [.lit (.bool false)], args := [d1, d2, d3] }
  | _ => none }
def AuctionLegalWrongFalsely : Prop := auctionLegalRow.holds Tryd.pinned (OpenSpec.ofChange auctionLegalWrong)

/-- 'finesselaw09.AuctionEnds': WHATEVER THE INPUT: true; the input reads as it did. -/
def auctionEndsSpec : ChangeSpec := { name := "auctionEnds", fn := fun _ => fun
  | [d1, d2] => { results := [.lit (.bool true)], args := [d1, d2] }
  | _ => none }
def auctionEndsRow : OpenClaim := { program := "ytnhilofmafjdpaadoor", sum := "d09c561796345ab1c29209aecdc273cf8f3aeaf780f3a35573ec03cc1c7d9b52", func := "finesse/finesselaw09.AuctionEnds", spec := "auctionEnds", inPlace := ["internal/bytealg.IndexByteString", "internal/bytealg.IndexString", "internal/abi.NoEscape", "internal/bytealg.MakeNoZero"], unfollowed := true, recurses := true, named := ["internal/bytealg.MaxLen", "finesse/call.texts"], apart := false, laid := [("finesse/call.texts", laid_finesse_call_texts)] }
def AuctionEndsSaid : Prop := auctionEndsRow.holds Tryd.pinned (OpenSpec.ofChange auctionEndsSpec)

/-- ITS FALSE NEIGHBOUR: 'it returns false'. Refute it at one input. -/
def auctionEndsWrong : ChangeSpec := { name := "auctionEnds", fn := fun _ => fun
  | [d1, d2] => { results := [.lit (.bool false)], args := [d1, d2] }
  | _ => none }
def AuctionEndsWrongFalsely : Prop := auctionEndsRow.holds Tryd.pinned (OpenSpec.ofChange auctionEndsWrong)

/-- 'finesselaw09.AuctionReads': WHATEVER THE INPUT: true; the input reads as it did. -/
def auctionReadsSpec : ChangeSpec := { name := "auctionReads", fn := fun _ => fun
  | [d] => { results := [.lit (.bool true)], args := [d] }
  | _ => none }
def auctionReadsRow : OpenClaim := { program := "ytnhilofmafjdpaadoor", sum := "d09c561796345ab1c29209aecdc273cf8f3aeaf780f3a35573ec03cc1c7d9b52", func := "finesse/finesselaw09.AuctionReads", spec := "auctionReads", inPlace := ["internal/bytealg.IndexByteString", "internal/bytealg.IndexString", "internal/abi.NoEscape", "internal/bytealg.MakeNoZero"], unfollowed := true, recurses := true, named := ["internal/bytealg.MaxLen", "finesse/call.texts", "unicode/utf8.first", "unicode/utf8.acceptRanges"], apart := false, laid := [("unicode/utf8.acceptRanges", laid_unicode_utf8_acceptRanges), ("finesse/call.texts", laid_finesse_call_texts), ("unicode/utf8.first", laid_unicode_utf8_first)] }
def AuctionReadsSaid : Prop := auctionReadsRow.holds Tryd.pinned (OpenSpec.ofChange auctionReadsSpec)

/-- ITS FALSE NEIGHBOUR: 'it returns false'. Refute it at one input. -/
def auctionReadsWrong : ChangeSpec := { name := "auctionReads", fn := fun _ => fun
  | [d] => { results := [.lit (.bool false)], args := [d] }
  | _ => none }
def AuctionReadsWrongFalsely : Prop := auctionReadsRow.holds Tryd.pinned (OpenSpec.ofChange auctionReadsWrong)

/-- 'finesselaw09.AuctionBack': WHATEVER THE INPUT: true; the input reads as it did. -/
def auctionBackSpec : ChangeSpec := { name := "auctionBack", fn := fun _ => fun
  | [d1, d2, d3] => { results := [.lit (.bool true)], args := [d1, d2, d3] }
  | _ => none }
def auctionBackRow : OpenClaim := { program := "ytnhilofmafjdpaadoor", sum := "d09c561796345ab1c29209aecdc273cf8f3aeaf780f3a35573ec03cc1c7d9b52", func := "finesse/finesselaw09.AuctionBack", spec := "auctionBack", inPlace := ["internal/bytealg.IndexByteString", "internal/bytealg.IndexString", "internal/abi.NoEscape", "internal/bytealg.MakeNoZero"], unfollowed := true, recurses := true, named := ["internal/bytealg.MaxLen", "finesse/call.texts", "unicode/utf8.first", "unicode/utf8.acceptRanges"], apart := false, laid := [("unicode/utf8.acceptRanges", laid_unicode_utf8_acceptRanges), ("finesse/call.texts", laid_finesse_call_texts), ("unicode/utf8.first", laid_unicode_utf8_first)] }
def AuctionBackSaid : Prop := auctionBackRow.holds Tryd.pinned (OpenSpec.ofChange auctionBackSpec)

/-- ITS FALSE NEIGHBOUR: 'it returns false'. Refute it at one input. -/
def auctionBackWrong : ChangeSpec := { name := "auctionBack", fn := fun _ => fun
  | [d1, d2, d3] => { results := [.lit (.bool false)], args := [d1, d2, d3] }
  | _ => none }
def AuctionBackWrongFalsely : Prop := auctionBackRow.holds Tryd.pinned (OpenSpec.ofChange auctionBackWrong)

/-- 'finesselaw09.AuctionSmall': WHATEVER THE INPUT: true; the input reads as it did. -/
def auctionSmallSpec : ChangeSpec := { name := "auctionSmall", fn := fun _ => fun
  | [] => { results := [.lit (.bool true)], args := [] }
  | _ => none }
def auctionSmallRow : OpenClaim := { program := "ytnhilofmafjdpaadoor", sum := "d09c561796345ab1c29209aecdc273cf8f3aeaf780f3a35573ec03cc1c7d9b52", func := "finesse/finesselaw09.AuctionSmall", spec := "auctionSmall", inPlace := ["internal/abi.NoEscape", "internal/bytealg.MakeNoZero", "internal/bytealg.IndexByteString", "internal/bytealg.IndexString"], unfollowed := true, recurses := true, named := ["finesse/call.texts", "internal/bytealg.MaxLen", "unicode/utf8.first", "unicode/utf8.acceptRanges"], apart := false, laid := [("unicode/utf8.acceptRanges", laid_unicode_utf8_acceptRanges), ("finesse/call.texts", laid_finesse_call_texts), ("unicode/utf8.first", laid_unicode_utf8_first)] }
def AuctionSmallSaid : Prop := auctionSmallRow.holds Tryd.pinned (OpenSpec.ofChange auctionSmallSpec)

/-- ITS FALSE NEIGHBOUR: 'it returns false'. Refute it at one input. -/
def auctionSmallWrong : ChangeSpec := { name := "auctionSmall", fn := fun _ => fun
  | [] => { results := [.lit (.bool false)], args := [] }
  | _ => none }
def AuctionSmallWrongFalsely : Prop := auctionSmallRow.holds Tryd.pinned (OpenSpec.ofChange auctionSmallWrong)

/- THE SECOND FORM. 'bulk': how many values and letters a reading holds, each counted each time it is reached (what is shared counts as often as it is met; a slice's spare places count too). A statement '..UptoSaid' is the law's where the arguments, and the package variables that the reading takes, are together of bulk at most 1048576: NARROWER than '..Said'. Prove '..Said' where nothing that the law and all that it calls make is longer than what came in: it says more and counts as full. Else prove '..UptoSaid'. A law counts once. -/
mutual
def uptoBulk {H : Type} : DataW H → Nat
  | .lit (.string bytes) => bytes.length + 1
  | .lit _ => 1
  | .nil => 1
  | .ptr d => uptoBulk d + 1
  | .slice elems spare => uptoBulkAll elems + uptoBulkAll spare + 1
  | .agg parts => uptoBulkAll parts + 1
  | .iface _ d => uptoBulk d + 1
  | .map entries => uptoBulkEntries entries + 1
  | .held _ => 1
def uptoBulkAll {H : Type} : List (DataW H) → Nat
  | [] => 0
  | d :: r => uptoBulk d + uptoBulkAll r
def uptoBulkEntries {H : Type} : List (Lit × DataW H) → Nat
  | [] => 0
  | x :: r => uptoBulkEntry x + uptoBulkEntries r
def uptoBulkEntry {H : Type} : Lit × DataW H → Nat
  | (.string bytes, d) => bytes.length + uptoBulk d + 1
  | (_, d) => uptoBulk d + 1
 end
def uptoSmall : (H : Type) → List (DataW H) → Bool := fun _ ds => decide (uptoBulkAll ds ≤ 1048576)
def OpenSpec.upto (s : _root_.Go.ChangeSpec) : _root_.Go.OpenSpec := { _root_.Go.OpenSpec.ofChange s with cond := some uptoSmall }

/-- 'finesselaw09.AuctionLeader', WHERE WHAT IT READS IS OF BULK AT MOST 1048576: true; the input reads as it did. -/
def auctionLeaderUptoRow : OpenClaim := { program := "ytnhilofmafjdpaadoor", sum := "d09c561796345ab1c29209aecdc273cf8f3aeaf780f3a35573ec03cc1c7d9b52", func := "finesse/finesselaw09.AuctionLeader", spec := "auctionLeader", inPlace := ["internal/bytealg.IndexByteString", "internal/bytealg.IndexString", "internal/abi.NoEscape", "internal/bytealg.MakeNoZero"], unfollowed := true, recurses := true, named := ["internal/bytealg.MaxLen", "finesse/call.texts"], apart := false, laid := [("finesse/call.texts", laid_finesse_call_texts)], narrowed := true }
def AuctionLeaderUptoSaid : Prop := auctionLeaderUptoRow.holds Tryd.pinned (OpenSpec.upto auctionLeaderSpec)

/-- 'finesselaw09.AuctionTurned', WHERE WHAT IT READS IS OF BULK AT MOST 1048576: true; the input reads as it did. -/
def auctionTurnedUptoRow : OpenClaim := { program := "ytnhilofmafjdpaadoor", sum := "d09c561796345ab1c29209aecdc273cf8f3aeaf780f3a35573ec03cc1c7d9b52", func := "finesse/finesselaw09.AuctionTurned", spec := "auctionTurned", inPlace := ["internal/bytealg.IndexByteString", "internal/bytealg.IndexString", "internal/abi.NoEscape", "internal/bytealg.MakeNoZero"], unfollowed := true, recurses := true, named := ["internal/bytealg.MaxLen", "finesse/call.texts"], apart := false, laid := [("finesse/call.texts", laid_finesse_call_texts)], narrowed := true }
def AuctionTurnedUptoSaid : Prop := auctionTurnedUptoRow.holds Tryd.pinned (OpenSpec.upto auctionTurnedSpec)

/-- 'finesselaw09.AuctionTells', WHERE WHAT IT READS IS OF BULK AT MOST 1048576: true; the input reads as it did. -/
def auctionTellsUptoRow : OpenClaim := { program := "ytnhilofmafjdpaadoor", sum := "d09c561796345ab1c29209aecdc273cf8f3aeaf780f3a35573ec03cc1c7d9b52", func := "finesse/finesselaw09.AuctionTells", spec := "auctionTells", inPlace := ["internal/abi.NoEscape", "internal/bytealg.MakeNoZero", "internal/bytealg.IndexByteString", "internal/bytealg.IndexString"], unfollowed := true, recurses := true, named := ["finesse/call.texts", "internal/bytealg.MaxLen"], apart := false, laid := [("finesse/call.texts", laid_finesse_call_texts)], narrowed := true }
def AuctionTellsUptoSaid : Prop := auctionTellsUptoRow.holds Tryd.pinned (OpenSpec.upto auctionTellsSpec)

/-- 'finesselaw09.AuctionWrong', WHERE WHAT IT READS IS OF BULK AT MOST 1048576: true; the input reads as it did. -/
def auctionWrongUptoRow : OpenClaim := { program := "ytnhilofmafjdpaadoor", sum := "d09c561796345ab1c29209aecdc273cf8f3aeaf780f3a35573ec03cc1c7d9b52", func := "finesse/finesselaw09.AuctionWrong", spec := "auctionWrong", inPlace := ["internal/bytealg.IndexByteString", "internal/bytealg.IndexString", "internal/abi.NoEscape", "internal/bytealg.MakeNoZero"], unfollowed := true, recurses := true, named := ["internal/bytealg.MaxLen", "finesse/call.texts"], apart := false, laid := [("finesse/call.texts", laid_finesse_call_texts)], narrowed := true }
def AuctionWrongUptoSaid : Prop := auctionWrongUptoRow.holds Tryd.pinned (OpenSpec.upto auctionWrongSpec)

/-- 'finesselaw09.AuctionLegal', WHERE WHAT IT READS IS OF BULK AT MOST 1048576: true; the input reads as it did. -/
def auctionLegalUptoRow : OpenClaim := { program := "ytnhilofmafjdpaadoor", sum := "d09c561796345ab1c29209aecdc273cf8f3aeaf780f3a35573ec03cc1c7d9b52", func := "finesse/finesselaw09.AuctionLegal", spec := "auctionLegal", inPlace := ["internal/bytealg.IndexByteString", "internal/bytealg.IndexString", "internal/abi.NoEscape", "internal/bytealg.MakeNoZero"], unfollowed := true, recurses := true, named := ["internal/bytealg.MaxLen", "finesse/call.texts"], apart := false, laid := [("finesse/call.texts", laid_finesse_call_texts)], narrowed := true }
def AuctionLegalUptoSaid : Prop := auctionLegalUptoRow.holds Tryd.pinned (OpenSpec.upto auctionLegalSpec)

/-- 'finesselaw09.AuctionEnds', WHERE WHAT IT READS IS OF BULK AT MOST 1048576: true; the input reads as it did. -/
def auctionEndsUptoRow : OpenClaim := { program := "ytnhilofmafjdpaadoor", sum := "d09c561796345ab1c29209aecdc273cf8f3aeaf780f3a35573ec03cc1c7d9b52", func := "finesse/finesselaw09.AuctionEnds", spec := "auctionEnds", inPlace := ["internal/bytealg.IndexByteString", "internal/bytealg.IndexString", "internal/abi.NoEscape", "internal/bytealg.MakeNoZero"], unfollowed := true, recurses := true, named := ["internal/bytealg.MaxLen", "finesse/call.texts"], apart := false, laid := [("finesse/call.texts", laid_finesse_call_texts)], narrowed := true }
def AuctionEndsUptoSaid : Prop := auctionEndsUptoRow.holds Tryd.pinned (OpenSpec.upto auctionEndsSpec)

/-- 'finesselaw09.AuctionReads', WHERE WHAT IT READS IS OF BULK AT MOST 1048576: true; the input reads as it did. -/
def auctionReadsUptoRow : OpenClaim := { program := "ytnhilofmafjdpaadoor", sum := "d09c561796345ab1c29209aecdc273cf8f3aeaf780f3a35573ec03cc1c7d9b52", func := "finesse/finesselaw09.AuctionReads", spec := "auctionReads", inPlace := ["internal/bytealg.IndexByteString", "internal/bytealg.IndexString", "internal/abi.NoEscape", "internal/bytealg.MakeNoZero"], unfollowed := true, recurses := true, named := ["internal/bytealg.MaxLen", "finesse/call.texts", "unicode/utf8.first", "unicode/utf8.acceptRanges"], apart := false, laid := [("unicode/utf8.acceptRanges", laid_unicode_utf8_acceptRanges), ("finesse/call.texts", laid_finesse_call_texts), ("unicode/utf8.first", laid_unicode_utf8_first)], narrowed := true }
def AuctionReadsUptoSaid : Prop := auctionReadsUptoRow.holds Tryd.pinned (OpenSpec.upto auctionReadsSpec)

/-- 'finesselaw09.AuctionBack', WHERE WHAT IT READS IS OF BULK AT MOST 1048576: true; the input reads as it did. -/
def auctionBackUptoRow : OpenClaim := { program := "ytnhilofmafjdpaadoor", sum := "d09c561796345ab1c29209aecdc273cf8f3aeaf780f3a35573ec03cc1c7d9b52", func := "finesse/finesselaw09.AuctionBack", spec := "auctionBack", inPlace := ["internal/bytealg.IndexByteString", "internal/bytealg.IndexString", "internal/abi.NoEscape", "internal/bytealg.MakeNoZero"], unfollowed := true, recurses := true, named := ["internal/bytealg.MaxLen", "finesse/call.texts", "unicode/utf8.first", "unicode/utf8.acceptRanges"], apart := false, laid := [("unicode/utf8.acceptRanges", laid_unicode_utf8_acceptRanges), ("finesse/call.texts", laid_finesse_call_texts), ("unicode/utf8.first", laid_unicode_utf8_first)], narrowed := true }
def AuctionBackUptoSaid : Prop := auctionBackUptoRow.holds Tryd.pinned (OpenSpec.upto auctionBackSpec)

/-- 'finesselaw09.AuctionSmall', WHERE WHAT IT READS IS OF BULK AT MOST 1048576: true; the input reads as it did. -/
def auctionSmallUptoRow : OpenClaim := { program := "ytnhilofmafjdpaadoor", sum := "d09c561796345ab1c29209aecdc273cf8f3aeaf780f3a35573ec03cc1c7d9b52", func := "finesse/finesselaw09.AuctionSmall", spec := "auctionSmall", inPlace := ["internal/abi.NoEscape", "internal/bytealg.MakeNoZero", "internal/bytealg.IndexByteString", "internal/bytealg.IndexString"], unfollowed := true, recurses := true, named := ["finesse/call.texts", "internal/bytealg.MaxLen", "unicode/utf8.first", "unicode/utf8.acceptRanges"], apart := false, laid := [("unicode/utf8.acceptRanges", laid_unicode_utf8_acceptRanges), ("finesse/call.texts", laid_finesse_call_texts), ("unicode/utf8.first", laid_unicode_utf8_first)], narrowed := true }
def AuctionSmallUptoSaid : Prop := auctionSmallUptoRow.holds Tryd.pinned (OpenSpec.upto auctionSmallSpec)

end Rows
end Go.Proofs.YtnhilofmafjdpaaDoor
