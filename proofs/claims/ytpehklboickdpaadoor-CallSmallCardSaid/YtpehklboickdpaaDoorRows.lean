/-
  NARROWER THAN 'FOR EVERY INPUT', by the rows' own cells (each row's printed sentence says how): CallTexts: laid · CallOrder: laid · CallCheapest: laid · CallTells: laid · CallWrong: laid · CallSmall: laid · CallReads: laid.
  DERIVED. THE GIVEN ROWS OF THIS SEAT. 7 by the template 'for every input the law returns true; each argument reads behind the call as it read before'; 0 by the template 'total and deterministic' (their statements: YtpehklboickdpaaDoorTotals.lean).
  GIVEN WITH THE SEED: the statements are not yours to turn. If you find one false, say at which input.
  Laid BY PROGRAM, IN A SANDBOX (cutbox-rows.mjs): the forced cells as the released guide's own fill.sh prints them over the translation bd5752236e3aae00… (all of the seat's roots in one cut). By AI agents, Wed Nov 11 2026. No macro, syntax, notation, axiom, sorry.
-/
import Derived.Test.YtpehklboickdpaaDoorChecked
import GoSem.PinnedTables
import GoSem.Claim
import GoSem.ClaimJoined
import GoSem.ClaimMapViews
import Derived.JoinedTies
import Derived.KernelRfl
namespace Go.Proofs.YtpehklboickdpaaDoor
/- THE CELL 'sum', in the pinned program and in every row, IS THE sha256 OF THE DUMP (.gsa) THAT YtpehklboickdpaaDoorProg.lean LOADS. Nothing in Lean hashes anything: it is a label: what it is worth is what the hold of that sum in a sandbox is worth. -/
noncomputable def Tryd.pinned : Pinned := { name := "ytpehklboickdpaadoor", sum := "bd5752236e3aae00323b1ad0a180827cce0b5307d0f1fcd17f4039f9d6d33042", checked := Tryd.checked }
namespace Rows
def none {H : Type} : Left H := { results := [], args := [] }

/- WHAT THE LISTED PACKAGE-LEVEL VARIABLES READ AS WHEN THE CALL BEGINS. Each datum BY PROGRAM (the guide's laid-datum.mjs) off the statement by which the dump's own 'gosem.cut.vars' lays the variable. In a bare row this is a premise. The card (YtpehklboickdpaaDoorCards.lean) ties it to the program's text. -/
def laid_finesse_call_texts {H : Type} : DataW H := .agg [.lit (.string [80]), .lit (.string [88]), .lit (.string [88, 88]), .lit (.string [49, 67]), .lit (.string [49, 68]), .lit (.string [49, 72]), .lit (.string [49, 83]), .lit (.string [49, 78, 84]), .lit (.string [50, 67]), .lit (.string [50, 68]), .lit (.string [50, 72]), .lit (.string [50, 83]), .lit (.string [50, 78, 84]), .lit (.string [51, 67]), .lit (.string [51, 68]), .lit (.string [51, 72]), .lit (.string [51, 83]), .lit (.string [51, 78, 84]), .lit (.string [52, 67]), .lit (.string [52, 68]), .lit (.string [52, 72]), .lit (.string [52, 83]), .lit (.string [52, 78, 84]), .lit (.string [53, 67]), .lit (.string [53, 68]), .lit (.string [53, 72]), .lit (.string [53, 83]), .lit (.string [53, 78, 84]), .lit (.string [54, 67]), .lit (.string [54, 68]), .lit (.string [54, 72]), .lit (.string [54, 83]), .lit (.string [54, 78, 84]), .lit (.string [55, 67]), .lit (.string [55, 68]), .lit (.string [55, 72]), .lit (.string [55, 83]), .lit (.string [55, 78, 84])]
def laid_unicode_utf8_acceptRanges {H : Type} : DataW H := .agg [.agg [.lit (.int .u8 128), .lit (.int .u8 191)], .agg [.lit (.int .u8 160), .lit (.int .u8 191)], .agg [.lit (.int .u8 128), .lit (.int .u8 159)], .agg [.lit (.int .u8 144), .lit (.int .u8 191)], .agg [.lit (.int .u8 128), .lit (.int .u8 143)], .agg [.lit (.int .u8 0), .lit (.int .u8 0)], .agg [.lit (.int .u8 0), .lit (.int .u8 0)], .agg [.lit (.int .u8 0), .lit (.int .u8 0)], .agg [.lit (.int .u8 0), .lit (.int .u8 0)], .agg [.lit (.int .u8 0), .lit (.int .u8 0)], .agg [.lit (.int .u8 0), .lit (.int .u8 0)], .agg [.lit (.int .u8 0), .lit (.int .u8 0)], .agg [.lit (.int .u8 0), .lit (.int .u8 0)], .agg [.lit (.int .u8 0), .lit (.int .u8 0)], .agg [.lit (.int .u8 0), .lit (.int .u8 0)], .agg [.lit (.int .u8 0), .lit (.int .u8 0)]]
def laid_unicode_White_Space {H : Type} : DataW H := .ptr (.agg [.slice [.agg [.lit (.int .u16 9), .lit (.int .u16 13), .lit (.int .u16 1)], .agg [.lit (.int .u16 32), .lit (.int .u16 133), .lit (.int .u16 101)], .agg [.lit (.int .u16 160), .lit (.int .u16 5760), .lit (.int .u16 5600)], .agg [.lit (.int .u16 8192), .lit (.int .u16 8202), .lit (.int .u16 1)], .agg [.lit (.int .u16 8232), .lit (.int .u16 8233), .lit (.int .u16 1)], .agg [.lit (.int .u16 8239), .lit (.int .u16 8287), .lit (.int .u16 48)], .agg [.lit (.int .u16 12288), .lit (.int .u16 12288), .lit (.int .u16 1)]] [], .nil, .lit (.int .i64 2)])
def laid_strings_asciiSpace {H : Type} : DataW H := .agg [.lit (.int .u8 0), .lit (.int .u8 0), .lit (.int .u8 0), .lit (.int .u8 0), .lit (.int .u8 0), .lit (.int .u8 0), .lit (.int .u8 0), .lit (.int .u8 0), .lit (.int .u8 0), .lit (.int .u8 1), .lit (.int .u8 1), .lit (.int .u8 1), .lit (.int .u8 1), .lit (.int .u8 1), .lit (.int .u8 0), .lit (.int .u8 0), .lit (.int .u8 0), .lit (.int .u8 0), .lit (.int .u8 0), .lit (.int .u8 0), .lit (.int .u8 0), .lit (.int .u8 0), .lit (.int .u8 0), .lit (.int .u8 0), .lit (.int .u8 0), .lit (.int .u8 0), .lit (.int .u8 0), .lit (.int .u8 0), .lit (.int .u8 0), .lit (.int .u8 0), .lit (.int .u8 0), .lit (.int .u8 0), .lit (.int .u8 1), .lit (.int .u8 0), .lit (.int .u8 0), .lit (.int .u8 0), .lit (.int .u8 0), .lit (.int .u8 0), .lit (.int .u8 0), .lit (.int .u8 0), .lit (.int .u8 0), .lit (.int .u8 0), .lit (.int .u8 0), .lit (.int .u8 0), .lit (.int .u8 0), .lit (.int .u8 0), .lit (.int .u8 0), .lit (.int .u8 0), .lit (.int .u8 0), .lit (.int .u8 0), .lit (.int .u8 0), .lit (.int .u8 0), .lit (.int .u8 0), .lit (.int .u8 0), .lit (.int .u8 0), .lit (.int .u8 0), .lit (.int .u8 0), .lit (.int .u8 0), .lit (.int .u8 0), .lit (.int .u8 0), .lit (.int .u8 0), .lit (.int .u8 0), .lit (.int .u8 0), .lit (.int .u8 0), .lit (.int .u8 0), .lit (.int .u8 0), .lit (.int .u8 0), .lit (.int .u8 0), .lit (.int .u8 0), .lit (.int .u8 0), .lit (.int .u8 0), .lit (.int .u8 0), .lit (.int .u8 0), .lit (.int .u8 0), .lit (.int .u8 0), .lit (.int .u8 0), .lit (.int .u8 0), .lit (.int .u8 0), .lit (.int .u8 0), .lit (.int .u8 0), .lit (.int .u8 0), .lit (.int .u8 0), .lit (.int .u8 0), .lit (.int .u8 0), .lit (.int .u8 0), .lit (.int .u8 0), .lit (.int .u8 0), .lit (.int .u8 0), .lit (.int .u8 0), .lit (.int .u8 0), .lit (.int .u8 0), .lit (.int .u8 0), .lit (.int .u8 0), .lit (.int .u8 0), .lit (.int .u8 0), .lit (.int .u8 0), .lit (.int .u8 0), .lit (.int .u8 0), .lit (.int .u8 0), .lit (.int .u8 0), .lit (.int .u8 0), .lit (.int .u8 0), .lit (.int .u8 0), .lit (.int .u8 0), .lit (.int .u8 0), .lit (.int .u8 0), .lit (.int .u8 0), .lit (.int .u8 0), .lit (.int .u8 0), .lit (.int .u8 0), .lit (.int .u8 0), .lit (.int .u8 0), .lit (.int .u8 0), .lit (.int .u8 0), .lit (.int .u8 0), .lit (.int .u8 0), .lit (.int .u8 0), .lit (.int .u8 0), .lit (.int .u8 0), .lit (.int .u8 0), .lit (.int .u8 0), .lit (.int .u8 0), .lit (.int .u8 0), .lit (.int .u8 0), .lit (.int .u8 0), .lit (.int .u8 0), .lit (.int .u8 0), .lit (.int .u8 0), .lit (.int .u8 0), .lit (.int .u8 0), .lit (.int .u8 0), .lit (.int .u8 0), .lit (.int .u8 0), .lit (.int .u8 0), .lit (.int .u8 0), .lit (.int .u8 0), .lit (.int .u8 0), .lit (.int .u8 0), .lit (.int .u8 0), .lit (.int .u8 0), .lit (.int .u8 0), .lit (.int .u8 0), .lit (.int .u8 0), .lit (.int .u8 0), .lit (.int .u8 0), .lit (.int .u8 0), .lit (.int .u8 0), .lit (.int .u8 0), .lit (.int .u8 0), .lit (.int .u8 0), .lit (.int .u8 0), .lit (.int .u8 0), .lit (.int .u8 0), .lit (.int .u8 0), .lit (.int .u8 0), .lit (.int .u8 0), .lit (.int .u8 0), .lit (.int .u8 0), .lit (.int .u8 0), .lit (.int .u8 0), .lit (.int .u8 0), .lit (.int .u8 0), .lit (.int .u8 0), .lit (.int .u8 0), .lit (.int .u8 0), .lit (.int .u8 0), .lit (.int .u8 0), .lit (.int .u8 0), .lit (.int .u8 0), .lit (.int .u8 0), .lit (.int .u8 0), .lit (.int .u8 0), .lit (.int .u8 0), .lit (.int .u8 0), .lit (.int .u8 0), .lit (.int .u8 0), .lit (.int .u8 0), .lit (.int .u8 0), .lit (.int .u8 0), .lit (.int .u8 0), .lit (.int .u8 0), .lit (.int .u8 0), .lit (.int .u8 0), .lit (.int .u8 0), .lit (.int .u8 0), .lit (.int .u8 0), .lit (.int .u8 0), .lit (.int .u8 0), .lit (.int .u8 0), .lit (.int .u8 0), .lit (.int .u8 0), .lit (.int .u8 0), .lit (.int .u8 0), .lit (.int .u8 0), .lit (.int .u8 0), .lit (.int .u8 0), .lit (.int .u8 0), .lit (.int .u8 0), .lit (.int .u8 0), .lit (.int .u8 0), .lit (.int .u8 0), .lit (.int .u8 0), .lit (.int .u8 0), .lit (.int .u8 0), .lit (.int .u8 0), .lit (.int .u8 0), .lit (.int .u8 0), .lit (.int .u8 0), .lit (.int .u8 0), .lit (.int .u8 0), .lit (.int .u8 0), .lit (.int .u8 0), .lit (.int .u8 0), .lit (.int .u8 0), .lit (.int .u8 0), .lit (.int .u8 0), .lit (.int .u8 0), .lit (.int .u8 0), .lit (.int .u8 0), .lit (.int .u8 0), .lit (.int .u8 0), .lit (.int .u8 0), .lit (.int .u8 0), .lit (.int .u8 0), .lit (.int .u8 0), .lit (.int .u8 0), .lit (.int .u8 0), .lit (.int .u8 0), .lit (.int .u8 0), .lit (.int .u8 0), .lit (.int .u8 0), .lit (.int .u8 0), .lit (.int .u8 0), .lit (.int .u8 0), .lit (.int .u8 0), .lit (.int .u8 0), .lit (.int .u8 0), .lit (.int .u8 0), .lit (.int .u8 0), .lit (.int .u8 0), .lit (.int .u8 0), .lit (.int .u8 0), .lit (.int .u8 0), .lit (.int .u8 0), .lit (.int .u8 0), .lit (.int .u8 0), .lit (.int .u8 0), .lit (.int .u8 0), .lit (.int .u8 0), .lit (.int .u8 0), .lit (.int .u8 0), .lit (.int .u8 0), .lit (.int .u8 0), .lit (.int .u8 0), .lit (.int .u8 0), .lit (.int .u8 0)]
/-- One of Go's own tables, pinned by name: the form's constant. -/
def laid_unicode_utf8_first : DataW Unit := Go.Pinned.utf8First

/-- 'finesselaw08.CallTexts': WHATEVER THE INPUT: true; the input reads as it did. -/
def callTextsSpec : ChangeSpec := { name := "callTexts", fn := fun _ => fun
  | [d1, d2] => { results := [.lit (.bool true)], args := [d1, d2] }
  | _ => none }
def callTextsRow : OpenClaim := { program := "ytpehklboickdpaadoor", sum := "bd5752236e3aae00323b1ad0a180827cce0b5307d0f1fcd17f4039f9d6d33042", func := "finesse/finesselaw08.CallTexts", spec := "callTexts", inPlace := ["internal/abi.NoEscape", "internal/bytealg.MakeNoZero", "internal/bytealg.IndexByteString", "internal/bytealg.IndexString"], unfollowed := true, recurses := true, named := ["finesse/call.texts", "internal/bytealg.MaxLen"], apart := false, laid := [("finesse/call.texts", laid_finesse_call_texts)] }
def CallTextsSaid : Prop := callTextsRow.holds Tryd.pinned (OpenSpec.ofChange callTextsSpec)

/-- ITS FALSE NEIGHBOUR: 'it returns false'. Refute it at one input. -/
def callTextsWrong : ChangeSpec := { name := "callTexts", fn := fun _ => fun
  | [d1, d2] => { results := [.lit (.bool false)], args := [d1, d2] }
  | _ => none }
def CallTextsWrongFalsely : Prop := callTextsRow.holds Tryd.pinned (OpenSpec.ofChange callTextsWrong)

/-- 'finesselaw08.CallOrder': WHATEVER THE INPUT: true; the input reads as it did. -/
def callOrderSpec : ChangeSpec := { name := "callOrder", fn := fun _ => fun
  | [d1, d2] => { results := [.lit (.bool true)], args := [d1, d2] }
  | _ => none }
def callOrderRow : OpenClaim := { program := "ytpehklboickdpaadoor", sum := "bd5752236e3aae00323b1ad0a180827cce0b5307d0f1fcd17f4039f9d6d33042", func := "finesse/finesselaw08.CallOrder", spec := "callOrder", inPlace := ["internal/abi.NoEscape", "internal/bytealg.MakeNoZero", "internal/bytealg.IndexByteString", "internal/bytealg.IndexString"], unfollowed := true, recurses := true, named := ["finesse/call.texts", "internal/bytealg.MaxLen"], apart := false, laid := [("finesse/call.texts", laid_finesse_call_texts)] }
def CallOrderSaid : Prop := callOrderRow.holds Tryd.pinned (OpenSpec.ofChange callOrderSpec)

/-- ITS FALSE NEIGHBOUR: 'it returns false'. Refute it at one input. -/
def callOrderWrong : ChangeSpec := { name := "callOrder", fn := fun _ => fun
  | [d1, d2] => { results := [.lit (.bool false)], args := [d1, d2] }
  | _ => none }
def CallOrderWrongFalsely : Prop := callOrderRow.holds Tryd.pinned (OpenSpec.ofChange callOrderWrong)

/-- 'finesselaw08.CallCheapest': WHATEVER THE INPUT: true; the input reads as it did. -/
def callCheapestSpec : ChangeSpec := { name := "callCheapest", fn := fun _ => fun
  | [d1, d2] => { results := [.lit (.bool true)], args := [d1, d2] }
  | _ => none }
def callCheapestRow : OpenClaim := { program := "ytpehklboickdpaadoor", sum := "bd5752236e3aae00323b1ad0a180827cce0b5307d0f1fcd17f4039f9d6d33042", func := "finesse/finesselaw08.CallCheapest", spec := "callCheapest", inPlace := ["internal/abi.NoEscape", "internal/bytealg.MakeNoZero", "internal/bytealg.IndexByteString", "internal/bytealg.IndexString"], unfollowed := true, recurses := true, named := ["finesse/call.texts", "internal/bytealg.MaxLen"], apart := false, laid := [("finesse/call.texts", laid_finesse_call_texts)] }
def CallCheapestSaid : Prop := callCheapestRow.holds Tryd.pinned (OpenSpec.ofChange callCheapestSpec)

/-- ITS FALSE NEIGHBOUR: 'it returns false'. Refute it at one input. -/
def callCheapestWrong : ChangeSpec := { name := "callCheapest", fn := fun _ => fun
  | [d1, d2] => { results := [.lit (.bool false)], args := [d1, d2] }
  | _ => none }
def CallCheapestWrongFalsely : Prop := callCheapestRow.holds Tryd.pinned (OpenSpec.ofChange callCheapestWrong)

/-- 'finesselaw08.CallTells': WHATEVER THE INPUT: true; the input reads as it did. -/
def callTellsSpec : ChangeSpec := { name := "callTells", fn := fun _ => fun
  | [d1, d2] => { results := [.lit (.bool true)], args := [d1, d2] }
  | _ => none }
def callTellsRow : OpenClaim := { program := "ytpehklboickdpaadoor", sum := "bd5752236e3aae00323b1ad0a180827cce0b5307d0f1fcd17f4039f9d6d33042", func := "finesse/finesselaw08.CallTells", spec := "callTells", inPlace := ["internal/abi.NoEscape", "internal/bytealg.MakeNoZero", "internal/bytealg.IndexByteString", "internal/bytealg.IndexString"], unfollowed := true, recurses := true, named := ["finesse/call.texts", "internal/bytealg.MaxLen"], apart := false, laid := [("finesse/call.texts", laid_finesse_call_texts)] }
def CallTellsSaid : Prop := callTellsRow.holds Tryd.pinned (OpenSpec.ofChange callTellsSpec)

/-- ITS FALSE NEIGHBOUR: 'it returns false'. Refute it at one input. -/
def callTellsWrong : ChangeSpec := { name := "callTells", fn := fun _ => fun
  | [d1, d2] => { results := [.lit (.bool false)], args := [d1, d2] }
  | _ => none }
def CallTellsWrongFalsely : Prop := callTellsRow.holds Tryd.pinned (OpenSpec.ofChange callTellsWrong)

/-- 'finesselaw08.CallWrong': WHATEVER THE INPUT: true; the input reads as it did. -/
def callWrongSpec : ChangeSpec := { name := "callWrong", fn := fun _ => fun
  | [d1, d2, d3] => { results := [.lit (.bool true)], args := [d1, d2, d3] }
  | _ => none }
def callWrongRow : OpenClaim := { program := "ytpehklboickdpaadoor", sum := "bd5752236e3aae00323b1ad0a180827cce0b5307d0f1fcd17f4039f9d6d33042", func := "finesse/finesselaw08.CallWrong", spec := "callWrong", inPlace := ["internal/abi.NoEscape", "internal/bytealg.MakeNoZero", "internal/bytealg.IndexByteString", "internal/bytealg.IndexString"], unfollowed := true, recurses := true, named := ["finesse/call.texts", "internal/bytealg.MaxLen"], apart := false, laid := [("finesse/call.texts", laid_finesse_call_texts)] }
def CallWrongSaid : Prop := callWrongRow.holds Tryd.pinned (OpenSpec.ofChange callWrongSpec)

/-- ITS FALSE NEIGHBOUR: 'it returns false'. Refute it at one input. -/
def callWrongWrong : ChangeSpec := { name := "callWrong", fn := fun _ => fun
  | [d1, d2, d3] => { results := [.lit (.bool false)], args := [d1, d2, d3] }
  | _ => none }
def CallWrongWrongFalsely : Prop := callWrongRow.holds Tryd.pinned (OpenSpec.ofChange callWrongWrong)

/-- 'finesselaw08.CallSmall': WHATEVER THE INPUT: true; the input reads as it did. -/
def callSmallSpec : ChangeSpec := { name := "callSmall", fn := fun _ => fun
  | [] => { results := [.lit (.bool true)], args := [] }
  | _ => none }
def callSmallRow : OpenClaim := { program := "ytpehklboickdpaadoor", sum := "bd5752236e3aae00323b1ad0a180827cce0b5307d0f1fcd17f4039f9d6d33042", func := "finesse/finesselaw08.CallSmall", spec := "callSmall", inPlace := ["internal/abi.NoEscape", "internal/bytealg.MakeNoZero", "internal/bytealg.IndexByteString", "internal/bytealg.IndexString"], unfollowed := true, recurses := true, named := ["finesse/call.texts", "internal/bytealg.MaxLen"], apart := false, laid := [("finesse/call.texts", laid_finesse_call_texts)] }
def CallSmallSaid : Prop := callSmallRow.holds Tryd.pinned (OpenSpec.ofChange callSmallSpec)

/-- ITS FALSE NEIGHBOUR: 'it returns false'. Refute it at one input. -/
def callSmallWrong : ChangeSpec := { name := "callSmall", fn := fun _ => fun
  | [] => { results := [.lit (.bool false)], args := [] }
  | _ => none }
def CallSmallWrongFalsely : Prop := callSmallRow.holds Tryd.pinned (OpenSpec.ofChange callSmallWrong)

/-- 'finesselaw08.CallReads': WHATEVER THE INPUT: true; the input reads as it did. -/
def callReadsSpec : ChangeSpec := { name := "callReads", fn := fun _ => fun
  | [d1, d2] => { results := [.lit (.bool true)], args := [d1, d2] }
  | _ => none }
def callReadsRow : OpenClaim := { program := "ytpehklboickdpaadoor", sum := "bd5752236e3aae00323b1ad0a180827cce0b5307d0f1fcd17f4039f9d6d33042", func := "finesse/finesselaw08.CallReads", spec := "callReads", inPlace := ["internal/abi.NoEscape", "internal/bytealg.MakeNoZero", "internal/bytealg.IndexByteString", "internal/bytealg.IndexString"], unfollowed := true, recurses := true, named := ["finesse/call.texts", "internal/bytealg.MaxLen", "strings.asciiSpace", "unicode/utf8.first", "unicode/utf8.acceptRanges", "unicode.White_Space"], apart := false, laid := [("unicode/utf8.acceptRanges", laid_unicode_utf8_acceptRanges), ("unicode.White_Space", laid_unicode_White_Space), ("strings.asciiSpace", laid_strings_asciiSpace), ("finesse/call.texts", laid_finesse_call_texts), ("unicode/utf8.first", laid_unicode_utf8_first)] }
def CallReadsSaid : Prop := callReadsRow.holds Tryd.pinned (OpenSpec.ofChange callReadsSpec)

/-- ITS FALSE NEIGHBOUR: 'it returns false'. Refute it at one input. -/
def callReadsWrong : ChangeSpec := { name := "callReads", fn := fun _ => fun
  | [d1, d2] => { results := [.lit (.bool false)], args := [d1, d2] }
  | _ => none }
def CallReadsWrongFalsely : Prop := callReadsRow.holds Tryd.pinned (OpenSpec.ofChange callReadsWrong)

/- THE SECOND FORM. 'bulk': how many values and letters a reading holds, each counted each time it is reached (what is shared counts as often as it is met; a slice's spare places count too). A statement '..UptoSaid' is the law's where the arguments, and the package variables that the reading takes, are together of bulk at most 1048576: NARROWER than '..Said'. Prove '..Said' where nothing that the law and all that it calls make is longer than what came in: it says more and counts as full. Else prove '..UptoSaid'. A law counts once. -/
mutual
def uptoBulk {H : Type} : DataW H → Nat
  | .lit (.string bytes) => bytes.length + 1
  | .lit _ => 1
  | .nil => 1
  | .ptr d => uptoBulk d + 1
  | .slice elems spare => uptoBulkAll elems + uptoBulkAll spare + 1
  | .agg parts => uptoBulkAll parts + 1
  | .iface _ d => uptoBulk d + 1
  | .map entries => uptoBulkEntries entries + 1
  | .held _ => 1
def uptoBulkAll {H : Type} : List (DataW H) → Nat
  | [] => 0
  | d :: r => uptoBulk d + uptoBulkAll r
def uptoBulkEntries {H : Type} : List (Lit × DataW H) → Nat
  | [] => 0
  | x :: r => uptoBulkEntry x + uptoBulkEntries r
def uptoBulkEntry {H : Type} : Lit × DataW H → Nat
  | (.string bytes, d) => bytes.length + uptoBulk d + 1
  | (_, d) => uptoBulk d + 1
 end
def uptoSmall : (H : Type) → List (DataW H) → Bool := fun _ ds => decide (uptoBulkAll ds ≤ 1048576)
def OpenSpec.upto (s : _root_.Go.ChangeSpec) : _root_.Go.OpenSpec := { _root_.Go.OpenSpec.ofChange s with cond := some uptoSmall }

/-- 'finesselaw08.CallTexts', WHERE WHAT IT READS IS OF BULK AT MOST 1048576: true; the input reads as it did. -/
def callTextsUptoRow : OpenClaim := { program := "ytpehklboickdpaadoor", sum := "bd5752236e3aae00323b1ad0a180827cce0b5307d0f1fcd17f4039f9d6d33042", func := "finesse/finesselaw08.CallTexts", spec := "callTexts", inPlace := ["internal/abi.NoEscape", "internal/bytealg.MakeNoZero", "internal/bytealg.IndexByteString", "internal/bytealg.IndexString"], unfollowed := true, recurses := true, named := ["finesse/call.texts", "internal/bytealg.MaxLen"], apart := false, laid := [("finesse/call.texts", laid_finesse_call_texts)], narrowed := true }
def CallTextsUptoSaid : Prop := callTextsUptoRow.holds Tryd.pinned (OpenSpec.upto callTextsSpec)

/-- 'finesselaw08.CallOrder', WHERE WHAT IT READS IS OF BULK AT MOST 1048576: true; the input reads as it did. -/
def callOrderUptoRow : OpenClaim := { program := "ytpehklboickdpaadoor", sum := "bd5752236e3aae00323b1ad0a180827cce0b5307d0f1fcd17f4039f9d6d33042", func := "finesse/finesselaw08.CallOrder", spec := "callOrder", inPlace := ["internal/abi.NoEscape", "internal/bytealg.MakeNoZero", "internal/bytealg.IndexByteString", "internal/bytealg.IndexString"], unfollowed := true, recurses := true, named := ["finesse/call.texts", "internal/bytealg.MaxLen"], apart := false, laid := [("finesse/call.texts", laid_finesse_call_texts)], narrowed := true }
def CallOrderUptoSaid : Prop := callOrderUptoRow.holds Tryd.pinned (OpenSpec.upto callOrderSpec)

/-- 'finesselaw08.CallCheapest', WHERE WHAT IT READS IS OF BULK AT MOST 1048576: true; the input reads as it did. -/
def callCheapestUptoRow : OpenClaim := { program := "ytpehklboickdpaadoor", sum := "bd5752236e3aae00323b1ad0a180827cce0b5307d0f1fcd17f4039f9d6d33042", func := "finesse/finesselaw08.CallCheapest", spec := "callCheapest", inPlace := ["internal/abi.NoEscape", "internal/bytealg.MakeNoZero", "internal/bytealg.IndexByteString", "internal/bytealg.IndexString"], unfollowed := true, recurses := true, named := ["finesse/call.texts", "internal/bytealg.MaxLen"], apart := false, laid := [("finesse/call.texts", laid_finesse_call_texts)], narrowed := true }
def CallCheapestUptoSaid : Prop := callCheapestUptoRow.holds Tryd.pinned (OpenSpec.upto callCheapestSpec)

/-- 'finesselaw08.CallTells', WHERE WHAT IT READS IS OF BULK AT MOST 1048576: true; the input reads as it did. -/
def callTellsUptoRow : OpenClaim := { program := "ytpehklboickdpaadoor", sum := "bd5752236e3aae00323b1ad0a180827cce0b5307d0f1fcd17f4039f9d6d33042", func := "finesse/finesselaw08.CallTells", spec := "callTells", inPlace := ["internal/abi.NoEscape", "internal/bytealg.MakeNoZero", "internal/bytealg.IndexByteString", "internal/bytealg.IndexString"], unfollowed := true, recurses := true, named := ["finesse/call.texts", "internal/bytealg.MaxLen"], apart := false, laid := [("finesse/call.texts", laid_finesse_call_texts)], narrowed := true }
def CallTellsUptoSaid : Prop := callTellsUptoRow.holds Tryd.pinned (OpenSpec.upto callTellsSpec)

/-- 'finesselaw08.CallWrong', WHERE WHAT IT READS IS OF BULK AT MOST 1048576: true; the input reads as it did. -/
def callWrongUptoRow : OpenClaim := { program := "ytpehklboickdpaadoor", sum := "bd5752236e3aae00323b1ad0a180827cce0b5307d0f1fcd17f4039f9d6d33042", func := "finesse/finesselaw08.CallWrong", spec := "callWrong", inPlace := ["internal/abi.NoEscape", "internal/bytealg.MakeNoZero", "internal/bytealg.IndexByteString", "internal/bytealg.IndexString"], unfollowed := true, recurses := true, named := ["finesse/call.texts", "internal/bytealg.MaxLen"], apart := false, laid := [("finesse/call.texts", laid_finesse_call_texts)], narrowed := true }
def CallWrongUptoSaid : Prop := callWrongUptoRow.holds Tryd.pinned (OpenSpec.upto callWrongSpec)

/-- 'finesselaw08.CallSmall', WHERE WHAT IT READS IS OF BULK AT MOST 1048576: true; the input reads as it did. -/
def callSmallUptoRow : OpenClaim := { program := "ytpehklboickdpaadoor", sum := "bd5752236e3aae00323b1ad0a180827cce0b5307d0f1fcd17f4039f9d6d33042", func := "finesse/finesselaw08.CallSmall", spec := "callSmall", inPlace := ["internal/abi.NoEscape", "internal/bytealg.MakeNoZero", "internal/bytealg.IndexByteString", "internal/bytealg.IndexString"], unfollowed := true, recurses := true, named := ["finesse/call.texts", "internal/bytealg.MaxLen"], apart := false, laid := [("finesse/call.texts", laid_finesse_call_texts)], narrowed := true }
def CallSmallUptoSaid : Prop := callSmallUptoRow.holds Tryd.pinned (OpenSpec.upto callSmallSpec)

/-- 'finesselaw08.CallReads', WHERE WHAT IT READS IS OF BULK AT MOST 1048576: true; the input reads as it did. -/
def callReadsUptoRow : OpenClaim := { program := "ytpehklboickdpaadoor", sum := "bd5752236e3aae00323b1ad0a180827cce0b5307d0f1fcd17f4039f9d6d33042", func := "finesse/finesselaw08.CallReads", spec := "callReads", inPlace := ["internal/abi.NoEscape", "internal/bytealg.MakeNoZero", "internal/bytealg.IndexByteString", "internal/bytealg.IndexString"], unfollowed := true, recurses := true, named := ["finesse/call.texts", "internal/bytealg.MaxLen", "strings.asciiSpace", "unicode/utf8.first", "unicode/utf8.acceptRanges", "unicode.White_Space"], apart := false, laid := [("unicode/utf8.acceptRanges", laid_unicode_utf8_acceptRanges), ("unicode.White_Space", laid_unicode_White_Space), ("strings.asciiSpace", laid_strings_asciiSpace), ("finesse/call.texts", laid_finesse_call_texts), ("unicode/utf8.first", laid_unicode_utf8_first)], narrowed := true }
def CallReadsUptoSaid : Prop := callReadsUptoRow.holds Tryd.pinned (OpenSpec.upto callReadsSpec)

end Rows
end Go.Proofs.YtpehklboickdpaaDoor
