/-
  No cell of these rows narrows 'for every input' (looked for: loops, veiled, ifaces, maps, wideKeys, modest, calm, conditions, laid).
  DERIVED. THE GIVEN ROWS OF THIS SEAT. 6 by the template 'for every input the law returns true; each argument reads behind the call as it read before'; 0 by the template 'total and deterministic' (their statements: YtojlmpcbplepcaaTotals.lean).
  GIVEN WITH THE SEED: the statements are not yours to turn. If you find one false, say at which input.
  Laid BY PROGRAM, IN A SANDBOX (cutbox-rows.mjs): the forced cells as the released guide's own fill.sh prints them over the translation 42a83f32ccf4ed65… (all of the seat's roots in one cut). By AI agents, Wed Nov 11 2026. No macro, syntax, notation, axiom, sorry.
-/
import Derived.Test.YtojlmpcbplepcaaChecked
import GoSem.Claim
import GoSem.ClaimJoined
import GoSem.ClaimMapViews
import Derived.JoinedTies
import Derived.KernelRfl
namespace Go.Proofs.Ytojlmpcbplepcaa
/- THE CELL 'sum', in the pinned program and in every row, IS THE sha256 OF THE DUMP (.gsa) THAT YtojlmpcbplepcaaProg.lean LOADS. Nothing in Lean hashes anything: it is a label: what it is worth is what the hold of that sum in a sandbox is worth. -/
noncomputable def Try.pinned : Pinned := { name := "ytojlmpcbplepcaa", sum := "42a83f32ccf4ed656c94caf176edd6f16c0f12162d4add15d582f01b4c6fc333", checked := Try.checked }
namespace Rows
def none {H : Type} : Left H := { results := [], args := [] }

/-- 'finesselaw10.IrregularFirm': WHATEVER THE INPUT: true; the input reads as it did. -/
def irregularFirmSpec : ChangeSpec := { name := "irregularFirm", fn := fun _ => fun
  | [d1, d2, d3, d4] => { results := [.lit (.bool true)], args := [d1, d2, d3, d4] }
  | _ => none }
def irregularFirmRow : OpenClaim := { program := "ytojlmpcbplepcaa", sum := "42a83f32ccf4ed656c94caf176edd6f16c0f12162d4add15d582f01b4c6fc333", func := "finesse/finesselaw10.IrregularFirm", spec := "irregularFirm", unfollowed := true, recurses := true, apart := false }
def IrregularFirmSaid : Prop := irregularFirmRow.holds Try.pinned (OpenSpec.ofChange irregularFirmSpec)

/-- ITS FALSE NEIGHBOUR: 'it returns false'. Refute it at one input. -/
def irregularFirmWrong : ChangeSpec := { name := "irregularFirm", fn := fun _ => fun
  | [d1, d2, d3, d4] => { results := [.lit (.bool false)], args := [d1, d2, d3, d4] }
  | _ => none }
def IrregularFirmWrongFalsely : Prop := irregularFirmRow.holds Try.pinned (OpenSpec.ofChange irregularFirmWrong)

/-- 'finesselaw10.IrregularStays': WHATEVER THE INPUT: true; the input reads as it did. -/
def irregularStaysSpec : ChangeSpec := { name := "irregularStays", fn := fun _ => fun
  | [d1, d2] => { results := [.lit (.bool true)], args := [d1, d2] }
  | _ => none }
def irregularStaysRow : OpenClaim := { program := "ytojlmpcbplepcaa", sum := "42a83f32ccf4ed656c94caf176edd6f16c0f12162d4add15d582f01b4c6fc333", func := "finesse/finesselaw10.IrregularStays", spec := "irregularStays", unfollowed := true, recurses := true, apart := false }
def IrregularStaysSaid : Prop := irregularStaysRow.holds Try.pinned (OpenSpec.ofChange irregularStaysSpec)

/-- ITS FALSE NEIGHBOUR: 'it returns false'. Refute it at one input. -/
def irregularStaysWrong : ChangeSpec := { name := "irregularStays", fn := fun _ => fun
  | [d1, d2] => { results := [.lit (.bool false)], args := [d1, d2] }
  | _ => none }
def IrregularStaysWrongFalsely : Prop := irregularStaysRow.holds Try.pinned (OpenSpec.ofChange irregularStaysWrong)

/-- 'finesselaw10.IrregularTurned': WHATEVER THE INPUT: true; the input reads as it did. -/
def irregularTurnedSpec : ChangeSpec := { name := "irregularTurned", fn := fun _ => fun
  | [d1, d2, d3] => { results := [.lit (.bool true)], args := [d1, d2, d3] }
  | _ => none }
def irregularTurnedRow : OpenClaim := { program := "ytojlmpcbplepcaa", sum := "42a83f32ccf4ed656c94caf176edd6f16c0f12162d4add15d582f01b4c6fc333", func := "finesse/finesselaw10.IrregularTurned", spec := "irregularTurned", unfollowed := true, recurses := true, apart := false }
def IrregularTurnedSaid : Prop := irregularTurnedRow.holds Try.pinned (OpenSpec.ofChange irregularTurnedSpec)

/-- ITS FALSE NEIGHBOUR: 'it returns false'. Refute it at one input. -/
def irregularTurnedWrong : ChangeSpec := { name := "irregularTurned", fn := fun _ => fun
  | [d1, d2, d3] => { results := [.lit (.bool false)], args := [d1, d2, d3] }
  | _ => none }
def IrregularTurnedWrongFalsely : Prop := irregularTurnedRow.holds Try.pinned (OpenSpec.ofChange irregularTurnedWrong)

/-- 'finesselaw10.IrregularGoes': WHATEVER THE INPUT: true; the input reads as it did. -/
def irregularGoesSpec : ChangeSpec := { name := "irregularGoes", fn := fun _ => fun
  | [d1, d2] => { results := [.lit (.bool true)], args := [d1, d2] }
  | _ => none }
def irregularGoesRow : OpenClaim := { program := "ytojlmpcbplepcaa", sum := "42a83f32ccf4ed656c94caf176edd6f16c0f12162d4add15d582f01b4c6fc333", func := "finesse/finesselaw10.IrregularGoes", spec := "irregularGoes", unfollowed := true, recurses := true, apart := false }
def IrregularGoesSaid : Prop := irregularGoesRow.holds Try.pinned (OpenSpec.ofChange irregularGoesSpec)

/-- ITS FALSE NEIGHBOUR: 'it returns false'. Refute it at one input. -/
def irregularGoesWrong : ChangeSpec := { name := "irregularGoes", fn := fun _ => fun
  | [d1, d2] => { results := [.lit (.bool false)], args := [d1, d2] }
  | _ => none }
def IrregularGoesWrongFalsely : Prop := irregularGoesRow.holds Try.pinned (OpenSpec.ofChange irregularGoesWrong)

/-- 'finesselaw10.IrregularWrong': WHATEVER THE INPUT: true; the input reads as it did. -/
def irregularWrongSpec : ChangeSpec := { name := "irregularWrong", fn := fun _ => fun
  | [d1, d2, d3, d4] => { results := [.lit (.bool true)], args := [d1, d2, d3, d4] }
  | _ => none }
def irregularWrongRow : OpenClaim := { program := "ytojlmpcbplepcaa", sum := "42a83f32ccf4ed656c94caf176edd6f16c0f12162d4add15d582f01b4c6fc333", func := "finesse/finesselaw10.IrregularWrong", spec := "irregularWrong", unfollowed := true, recurses := true, apart := false }
def IrregularWrongSaid : Prop := irregularWrongRow.holds Try.pinned (OpenSpec.ofChange irregularWrongSpec)

/-- ITS FALSE NEIGHBOUR: 'it returns false'. Refute it at one input. -/
def irregularWrongWrong : ChangeSpec := { name := "irregularWrong", fn := fun _ => fun
  | [d1, d2, d3, d4] => { results := [.lit (.bool false)], args := [d1, d2, d3, d4] }
  | _ => none }
def IrregularWrongWrongFalsely : Prop := irregularWrongRow.holds Try.pinned (OpenSpec.ofChange irregularWrongWrong)

/-- 'finesselaw10.IrregularPlain': WHATEVER THE INPUT: true; the input reads as it did. -/
def irregularPlainSpec : ChangeSpec := { name := "irregularPlain", fn := fun _ => fun
  | [d1, d2] => { results := [.lit (.bool true)], args := [d1, d2] }
  | _ => none }
def irregularPlainRow : OpenClaim := { program := "ytojlmpcbplepcaa", sum := "42a83f32ccf4ed656c94caf176edd6f16c0f12162d4add15d582f01b4c6fc333", func := "finesse/finesselaw10.IrregularPlain", spec := "irregularPlain", unfollowed := true, recurses := true, apart := false }
def IrregularPlainSaid : Prop := irregularPlainRow.holds Try.pinned (OpenSpec.ofChange irregularPlainSpec)

/-- ITS FALSE NEIGHBOUR: 'it returns false'. Refute it at one input. -/
def irregularPlainWrong : ChangeSpec := { name := "irregularPlain", fn := fun _ => fun
  | [d1, d2] => { results := [.lit (.bool false)], args := [d1, d2] }
  | _ => none }
def IrregularPlainWrongFalsely : Prop := irregularPlainRow.holds Try.pinned (OpenSpec.ofChange irregularPlainWrong)

/- THE SECOND FORM. 'bulk': how many values and letters a reading holds, each counted each time it is reached (what is shared counts as often as it is met; a slice's spare places count too). A statement '..UptoSaid' is the law's where the arguments, and the package variables that the reading takes, are together of bulk at most 1048576: NARROWER than '..Said'. Prove '..Said' where nothing that the law and all that it calls make is longer than what came in: it says more and counts as full. Else prove '..UptoSaid'. A law counts once. -/
mutual
def uptoBulk {H : Type} : DataW H → Nat
  | .lit (.string bytes) => bytes.length + 1
  | .lit _ => 1
  | .nil => 1
  | .ptr d => uptoBulk d + 1
  | .slice elems spare => uptoBulkAll elems + uptoBulkAll spare + 1
  | .agg parts => uptoBulkAll parts + 1
  | .iface _ d => uptoBulk d + 1
  | .map entries => uptoBulkEntries entries + 1
  | .held _ => 1
def uptoBulkAll {H : Type} : List (DataW H) → Nat
  | [] => 0
  | d :: r => uptoBulk d + uptoBulkAll r
def uptoBulkEntries {H : Type} : List (Lit × DataW H) → Nat
  | [] => 0
  | x :: r => uptoBulkEntry x + uptoBulkEntries r
def uptoBulkEntry {H : Type} : Lit × DataW H → Nat
  | (.string bytes, d) => bytes.length + uptoBulk d + 1
  | (_, d) => uptoBulk d + 1
 end
def uptoSmall : (H : Type) → List (DataW H) → Bool := fun _ ds => decide (uptoBulkAll ds ≤ 1048576)
def OpenSpec.upto (s : _root_.Go.ChangeSpec) : _root_.Go.OpenSpec := { _root_.Go.OpenSpec.ofChange s with cond := some uptoSmall }

/-- 'finesselaw10.IrregularFirm', WHERE WHAT IT READS IS OF BULK AT MOST 1048576: true; the input reads as it did. -/
def irregularFirmUptoRow : OpenClaim := { program := "ytojlmpcbplepcaa", sum := "42a83f32ccf4ed656c94caf176edd6f16c0f12162d4add15d582f01b4c6fc333", func := "finesse/finesselaw10.IrregularFirm", spec := "irregularFirm", unfollowed := true, recurses := true, apart := false, narrowed := true }
def IrregularFirmUptoSaid : Prop := irregularFirmUptoRow.holds Try.pinned (OpenSpec.upto irregularFirmSpec)

/-- 'finesselaw10.IrregularStays', WHERE WHAT IT READS IS OF BULK AT MOST 1048576: true; the input reads as it did. -/
def irregularStaysUptoRow : OpenClaim := { program := "ytojlmpcbplepcaa", sum := "42a83f32ccf4ed656c94caf176edd6f16c0f12162d4add15d582f01b4c6fc333", func := "finesse/finesselaw10.IrregularStays", spec := "irregularStays", unfollowed := true, recurses := true, apart := false, narrowed := true }
def IrregularStaysUptoSaid : Prop := irregularStaysUptoRow.holds Try.pinned (OpenSpec.upto irregularStaysSpec)

/-- 'finesselaw10.IrregularTurned', WHERE WHAT IT READS IS OF BULK AT MOST 1048576: true; the input reads as it did. -/
def irregularTurnedUptoRow : OpenClaim := { program := "ytojlmpcbplepcaa", sum := "42a83f32ccf4ed656c94caf176edd6f16c0f12162d4add15d582f01b4c6fc333", func := "finesse/finesselaw10.IrregularTurned", spec := "irregularTurned", unfollowed := true, recurses := true, apart := false, narrowed := true }
def IrregularTurnedUptoSaid : Prop := irregularTurnedUptoRow.holds Try.pinned (OpenSpec.upto irregularTurnedSpec)

/-- 'finesselaw10.IrregularGoes', WHERE WHAT IT READS IS OF BULK AT MOST 1048576: true; the input reads as it did. -/
def irregularGoesUptoRow : OpenClaim := { program := "ytojlmpcbplepcaa", sum := "42a83f32ccf4ed656c94caf176edd6f16c0f12162d4add15d582f01b4c6fc333", func := "finesse/finesselaw10.IrregularGoes", spec := "irregularGoes", unfollowed := true, recurses := true, apart := false, narrowed := true }
def IrregularGoesUptoSaid : Prop := irregularGoesUptoRow.holds Try.pinned (OpenSpec.upto irregularGoesSpec)

/-- 'finesselaw10.IrregularWrong', WHERE WHAT IT READS IS OF BULK AT MOST 1048576: true; the input reads as it did. -/
def irregularWrongUptoRow : OpenClaim := { program := "ytojlmpcbplepcaa", sum := "42a83f32ccf4ed656c94caf176edd6f16c0f12162d4add15d582f01b4c6fc333", func := "finesse/finesselaw10.IrregularWrong", spec := "irregularWrong", unfollowed := true, recurses := true, apart := false, narrowed := true }
def IrregularWrongUptoSaid : Prop := irregularWrongUptoRow.holds Try.pinned (OpenSpec.upto irregularWrongSpec)

/-- 'finesselaw10.IrregularPlain', WHERE WHAT IT READS IS OF BULK AT MOST 1048576: true; the input reads as it did. -/
def irregularPlainUptoRow : OpenClaim := { program := "ytojlmpcbplepcaa", sum := "42a83f32ccf4ed656c94caf176edd6f16c0f12162d4add15d582f01b4c6fc333", func := "finesse/finesselaw10.IrregularPlain", spec := "irregularPlain", unfollowed := true, recurses := true, apart := false, narrowed := true }
def IrregularPlainUptoSaid : Prop := irregularPlainUptoRow.holds Try.pinned (OpenSpec.upto irregularPlainSpec)

end Rows
end Go.Proofs.Ytojlmpcbplepcaa
