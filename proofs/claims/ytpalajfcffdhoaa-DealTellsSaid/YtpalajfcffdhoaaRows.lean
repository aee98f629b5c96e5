/-
  No cell of these rows narrows 'for every input' (looked for: loops, veiled, ifaces, maps, wideKeys, modest, calm, conditions, laid).
  DERIVED. THE GIVEN ROWS OF THIS SEAT. 6 by the template 'for every input the law returns true; each argument reads behind the call as it read before'; 0 by the template 'total and deterministic' (their statements: YtpalajfcffdhoaaTotals.lean).
  GIVEN WITH THE SEED: the statements are not yours to turn. If you find one false, say at which input.
  Laid BY PROGRAM, IN A SANDBOX (cutbox-rows.mjs): the forced cells as the released guide's own fill.sh prints them over the translation 9f1d60d28a5e5f3d… (all of the seat's roots in one cut). By AI agents, Wed Nov 11 2026. No macro, syntax, notation, axiom, sorry.
-/
import Derived.Test.YtpalajfcffdhoaaChecked
import GoSem.Claim
import GoSem.ClaimJoined
import GoSem.ClaimMapViews
import Derived.JoinedTies
import Derived.KernelRfl
namespace Go.Proofs.Ytpalajfcffdhoaa
/- THE CELL 'sum', in the pinned program and in every row, IS THE sha256 OF THE DUMP (.gsa) THAT YtpalajfcffdhoaaProg.lean LOADS. Nothing in Lean hashes anything: it is a label: what it is worth is what the hold of that sum in a sandbox is worth. -/
noncomputable def Try.pinned : Pinned := { name := "ytpalajfcffdhoaa", sum := "9f1d60d28a5e5f3d805a89c4df8f811ba6b716dfc3b60fe08af05cfed04ef729", checked := Try.checked }
namespace Rows
def none {H : Type} : Left H := { results := [], args := [] }

/-- 'finesselaw06.DealTurns': WHATEVER THE INPUT: true; the input reads as it did. -/
def dealTurnsSpec : ChangeSpec := { name := "dealTurns", fn := fun _ => fun
  | [d1, d2, d3, d4] => { results := [.lit (.bool true)], args := [d1, d2, d3, d4] }
  | _ => none }
def dealTurnsRow : OpenClaim := { program := "ytpalajfcffdhoaa", sum := "9f1d60d28a5e5f3d805a89c4df8f811ba6b716dfc3b60fe08af05cfed04ef729", func := "finesse/finesselaw06.DealTurns", spec := "dealTurns", inPlace := ["internal/abi.NoEscape", "internal/bytealg.MakeNoZero"], unfollowed := true, recurses := true, named := ["math/bits.overflowError"], apart := false }
def DealTurnsSaid : Prop := dealTurnsRow.holds Try.pinned (OpenSpec.ofChange dealTurnsSpec)

/-- ITS FALSE NEIGHBOUR: 'it returns false'. Refute it at one input. -/
def dealTurnsWrong : ChangeSpec := { name := "dealTurns", fn := fun _ => fun
  | [d1, d2, d3, d4] => { results := [.lit (.bool false)], args := [d1, d2, d3, d4] }
  | _ => none }
def DealTurnsWrongFalsely : Prop := dealTurnsRow.holds Try.pinned (OpenSpec.ofChange dealTurnsWrong)

/-- 'finesselaw06.DealSeats': WHATEVER THE INPUT: true; the input reads as it did. -/
def dealSeatsSpec : ChangeSpec := { name := "dealSeats", fn := fun _ => fun
  | [d1, d2, d3] => { results := [.lit (.bool true)], args := [d1, d2, d3] }
  | _ => none }
def dealSeatsRow : OpenClaim := { program := "ytpalajfcffdhoaa", sum := "9f1d60d28a5e5f3d805a89c4df8f811ba6b716dfc3b60fe08af05cfed04ef729", func := "finesse/finesselaw06.DealSeats", spec := "dealSeats", inPlace := ["internal/abi.NoEscape", "internal/bytealg.MakeNoZero"], unfollowed := true, recurses := true, named := ["math/bits.overflowError"], apart := false }
def DealSeatsSaid : Prop := dealSeatsRow.holds Try.pinned (OpenSpec.ofChange dealSeatsSpec)

/-- ITS FALSE NEIGHBOUR: 'it returns false'. Refute it at one input. -/
def dealSeatsWrong : ChangeSpec := { name := "dealSeats", fn := fun _ => fun
  | [d1, d2, d3] => { results := [.lit (.bool false)], args := [d1, d2, d3] }
  | _ => none }
def DealSeatsWrongFalsely : Prop := dealSeatsRow.holds Try.pinned (OpenSpec.ofChange dealSeatsWrong)

/-- 'finesselaw06.DealTells': WHATEVER THE INPUT: true; the input reads as it did. -/
def dealTellsSpec : ChangeSpec := { name := "dealTells", fn := fun _ => fun
  | [d1, d2, d3] => { results := [.lit (.bool true)], args := [d1, d2, d3] }
  | _ => none }
def dealTellsRow : OpenClaim := { program := "ytpalajfcffdhoaa", sum := "9f1d60d28a5e5f3d805a89c4df8f811ba6b716dfc3b60fe08af05cfed04ef729", func := "finesse/finesselaw06.DealTells", spec := "dealTells", inPlace := ["internal/abi.NoEscape", "internal/bytealg.MakeNoZero"], unfollowed := true, recurses := true, named := ["math/bits.overflowError"], apart := false }
def DealTellsSaid : Prop := dealTellsRow.holds Try.pinned (OpenSpec.ofChange dealTellsSpec)

/-- ITS FALSE NEIGHBOUR: 'it returns false'. Refute it at one input. -/
def dealTellsWrong : ChangeSpec := { name := "dealTells", fn := fun _ => fun
  | [d1, d2, d3] => { results := [.lit (.bool false)], args := [d1, d2, d3] }
  | _ => none }
def DealTellsWrongFalsely : Prop := dealTellsRow.holds Try.pinned (OpenSpec.ofChange dealTellsWrong)

/-- 'finesselaw06.DealBack': WHATEVER THE INPUT: true; the input reads as it did. -/
def dealBackSpec : ChangeSpec := { name := "dealBack", fn := fun _ => fun
  | [d1, d2, d3, d4] => { results := [.lit (.bool true)], args := [d1, d2, d3, d4] }
  | _ => none }
def dealBackRow : OpenClaim := { program := "ytpalajfcffdhoaa", sum := "9f1d60d28a5e5f3d805a89c4df8f811ba6b716dfc3b60fe08af05cfed04ef729", func := "finesse/finesselaw06.DealBack", spec := "dealBack", inPlace := ["internal/abi.NoEscape", "internal/bytealg.MakeNoZero"], unfollowed := true, recurses := true, named := ["math/bits.overflowError"], apart := false }
def DealBackSaid : Prop := dealBackRow.holds Try.pinned (OpenSpec.ofChange dealBackSpec)

/-- ITS FALSE NEIGHBOUR: 'it returns false'. Refute it at one input. -/
def dealBackWrong : ChangeSpec := { name := "dealBack", fn := fun _ => fun
  | [d1, d2, d3, d4] => { results := [.lit (.bool false)], args := [d1, d2, d3, d4] }
  | _ => none }
def DealBackWrongFalsely : Prop := dealBackRow.holds Try.pinned (OpenSpec.ofChange dealBackWrong)

/-- 'finesselaw06.DealWrong': WHATEVER THE INPUT: true; the input reads as it did. -/
def dealWrongSpec : ChangeSpec := { name := "dealWrong", fn := fun _ => fun
  | [d1, d2, d3, d4, d5] => { results := [.lit (.bool true)], args := [d1, d2, d3, d4, d5] }
  | _ => none }
def dealWrongRow : OpenClaim := { program := "ytpalajfcffdhoaa", sum := "9f1d60d28a5e5f3d805a89c4df8f811ba6b716dfc3b60fe08af05cfed04ef729", func := "finesse/finesselaw06.DealWrong", spec := "dealWrong", inPlace := ["internal/abi.NoEscape", "internal/bytealg.MakeNoZero"], unfollowed := true, recurses := true, named := ["math/bits.overflowError"], apart := false }
def DealWrongSaid : Prop := dealWrongRow.holds Try.pinned (OpenSpec.ofChange dealWrongSpec)

/-- ITS FALSE NEIGHBOUR: 'it returns false'. Refute it at one input. -/
def dealWrongWrong : ChangeSpec := { name := "dealWrong", fn := fun _ => fun
  | [d1, d2, d3, d4, d5] => { results := [.lit (.bool false)], args := [d1, d2, d3, d4, d5] }
  | _ => none }
def DealWrongWrongFalsely : Prop := dealWrongRow.holds Try.pinned (OpenSpec.ofChange dealWrongWrong)

/-- 'finesselaw06.DealDrawn': WHATEVER THE INPUT: true; the input reads as it did. -/
def dealDrawnSpec : ChangeSpec := { name := "dealDrawn", fn := fun _ => fun
  | [d1, d2, d3] => { results := [.lit (.bool true)], args := [d1, d2, d3] }
  | _ => none }
def dealDrawnRow : OpenClaim := { program := "ytpalajfcffdhoaa", sum := "9f1d60d28a5e5f3d805a89c4df8f811ba6b716dfc3b60fe08af05cfed04ef729", func := "finesse/finesselaw06.DealDrawn", spec := "dealDrawn", inPlace := ["internal/abi.NoEscape", "internal/bytealg.MakeNoZero"], unfollowed := true, recurses := true, named := ["math/bits.overflowError"], apart := false }
def DealDrawnSaid : Prop := dealDrawnRow.holds Try.pinned (OpenSpec.ofChange dealDrawnSpec)

/-- ITS FALSE NEIGHBOUR: 'it returns false'. Refute it at one input. -/
def dealDrawnWrong : ChangeSpec := { name := "dealDrawn", fn := fun _ => fun
  | [d1, d2, d3] => { results := [.lit (.bool false)], args := [d1, d2, d3] }
  | _ => none }
def DealDrawnWrongFalsely : Prop := dealDrawnRow.holds Try.pinned (OpenSpec.ofChange dealDrawnWrong)

/- THE SECOND FORM. 'bulk': how many values and letters a reading holds, each counted each time it is reached (what is shared counts as often as it is met; a slice's spare places count too). A statement '..UptoSaid' is the law's where the arguments, and the package variables that the reading takes, are together of bulk at most 1048576: NARROWER than '..Said'. Prove '..Said' where nothing that the law and all that it calls make is longer than what came in: it says more and counts as full. Else prove '..UptoSaid'. A law counts once. -/
mutual
def uptoBulk {H : Type} : DataW H → Nat
  | .lit (.string bytes) => bytes.length + 1
  | .lit _ => 1
  | .nil => 1
  | .ptr d => uptoBulk d + 1
  | .slice elems spare => uptoBulkAll elems + uptoBulkAll spare + 1
  | .agg parts => uptoBulkAll parts + 1
  | .iface _ d => uptoBulk d + 1
  | .map entries => uptoBulkEntries entries + 1
  | .held _ => 1
def uptoBulkAll {H : Type} : List (DataW H) → Nat
  | [] => 0
  | d :: r => uptoBulk d + uptoBulkAll r
def uptoBulkEntries {H : Type} : List (Lit × DataW H) → Nat
  | [] => 0
  | x :: r => uptoBulkEntry x + uptoBulkEntries r
def uptoBulkEntry {H : Type} : Lit × DataW H → Nat
  | (.string bytes, d) => bytes.length + uptoBulk d + 1
  | (_, d) => uptoBulk d + 1
 end
def uptoSmall : (H : Type) → List (DataW H) → Bool := fun _ ds => decide (uptoBulkAll ds ≤ 1048576)
def OpenSpec.upto (s : _root_.Go.ChangeSpec) : _root_.Go.OpenSpec := { _root_.Go.OpenSpec.ofChange s with cond := some uptoSmall }

/-- 'finesselaw06.DealTurns', WHERE WHAT IT READS IS OF BULK AT MOST 1048576: true; the input reads as it did. -/
def dealTurnsUptoRow : OpenClaim := { program := "ytpalajfcffdhoaa", sum := "9f1d60d28a5e5f3d805a89c4df8f811ba6b716dfc3b60fe08af05cfed04ef729", func := "finesse/finesselaw06.DealTurns", spec := "dealTurns", inPlace := ["internal/abi.NoEscape", "internal/bytealg.MakeNoZero"], unfollowed := true, recurses := true, named := ["math/bits.overflowError"], apart := false, narrowed := true }
def DealTurnsUptoSaid : Prop := dealTurnsUptoRow.holds Try.pinned (OpenSpec.upto dealTurnsSpec)

/-- 'finesselaw06.DealSeats', WHERE WHAT IT READS IS OF BULK AT MOST 1048576: true; the input reads as it did. -/
def dealSeatsUptoRow : OpenClaim := { program := "ytpalajfcffdhoaa", sum := "9f1d60d28a5e5f3d805a89c4df8f811ba6b716dfc3b60fe08af05cfed04ef729", func := "finesse/finesselaw06.DealSeats", spec := "dealSeats", inPlace := ["internal/abi.NoEscape", "internal/bytealg.MakeNoZero"], unfollowed := true, recurses := true, named := ["math/bits.overflowError"], apart := false, narrowed := true }
def DealSeatsUptoSaid : Prop := dealSeatsUptoRow.holds Try.pinned (OpenSpec.upto dealSeatsSpec)

/-- 'finesselaw06.DealTells', WHERE WHAT IT READS IS OF BULK AT MOST 1048576: true; the input reads as it did. -/
def dealTellsUptoRow : OpenClaim := { program := "ytpalajfcffdhoaa", sum := "9f1d60d28a5e5f3d805a89c4df8f811ba6b716dfc3b60fe08af05cfed04ef729", func := "finesse/finesselaw06.DealTells", spec := "dealTells", inPlace := ["internal/abi.NoEscape", "internal/bytealg.MakeNoZero"], unfollowed := true, recurses := true, named := ["math/bits.overflowError"], apart := false, narrowed := true }
def DealTellsUptoSaid : Prop := dealTellsUptoRow.holds Try.pinned (OpenSpec.upto dealTellsSpec)

/-- 'finesselaw06.DealBack', WHERE WHAT IT READS IS OF BULK AT MOST 1048576: true; the input reads as it did. -/
def dealBackUptoRow : OpenClaim := { program := "ytpalajfcffdhoaa", sum := "9f1d60d28a5e5f3d805a89c4df8f811ba6b716dfc3b60fe08af05cfed04ef729", func := "finesse/finesselaw06.DealBack", spec := "dealBack", inPlace := ["internal/abi.NoEscape", "internal/bytealg.MakeNoZero"], unfollowed := true, recurses := true, named := ["math/bits.overflowError"], apart := false, narrowed := true }
def DealBackUptoSaid : Prop := dealBackUptoRow.holds Try.pinned (OpenSpec.upto dealBackSpec)

/-- 'finesselaw06.DealWrong', WHERE WHAT IT READS IS OF BULK AT MOST 1048576: true; the input reads as it did. -/
def dealWrongUptoRow : OpenClaim := { program := "ytpalajfcffdhoaa", sum := "9f1d60d28a5e5f3d805a89c4df8f811ba6b716dfc3b60fe08af05cfed04ef729", func := "finesse/finesselaw06.DealWrong", spec := "dealWrong", inPlace := ["internal/abi.NoEscape", "internal/bytealg.MakeNoZero"], unfollowed := true, recurses := true, named := ["math/bits.overflowError"], apart := false, narrowed := true }
def DealWrongUptoSaid : Prop := dealWrongUptoRow.holds Try.pinned (OpenSpec.upto dealWrongSpec)

/-- 'finesselaw06.DealDrawn', WHERE WHAT IT READS IS OF BULK AT MOST 1048576: true; the input reads as it did. -/
def dealDrawnUptoRow : OpenClaim := { program := "ytpalajfcffdhoaa", sum := "9f1d60d28a5e5f3d805a89c4df8f811ba6b716dfc3b60fe08af05cfed04ef729", func := "finesse/finesselaw06.DealDrawn", spec := "dealDrawn", inPlace := ["internal/abi.NoEscape", "internal/bytealg.MakeNoZero"], unfollowed := true, recurses := true, named := ["math/bits.overflowError"], apart := false, narrowed := true }
def DealDrawnUptoSaid : Prop := dealDrawnUptoRow.holds Try.pinned (OpenSpec.upto dealDrawnSpec)

end Rows
end Go.Proofs.Ytpalajfcffdhoaa
