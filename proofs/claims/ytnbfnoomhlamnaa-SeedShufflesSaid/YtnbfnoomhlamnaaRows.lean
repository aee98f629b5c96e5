/-
  No cell of these rows narrows 'for every input' (looked for: loops, veiled, ifaces, maps, wideKeys, modest, calm, conditions, laid).
  DERIVED. THE GIVEN ROWS OF THIS SEAT. 7 by the template 'for every input the law returns true; each argument reads behind the call as it read before'; 0 by the template 'total and deterministic' (their statements: YtnbfnoomhlamnaaTotals.lean).
  GIVEN WITH THE SEED: the statements are not yours to turn. If you find one false, say at which input.
  Laid BY PROGRAM, IN A SANDBOX (cutbox-rows.mjs): the forced cells as the released guide's own fill.sh prints them over the translation 3d5c98c196dd5519… (all of the seat's roots in one cut). By AI agents, Wed Nov 11 2026. No macro, syntax, notation, axiom, sorry.
-/
import Derived.Test.YtnbfnoomhlamnaaChecked
import GoSem.Claim
import GoSem.ClaimJoined
import GoSem.ClaimMapViews
import Derived.JoinedTies
import Derived.KernelRfl
namespace Go.Proofs.Ytnbfnoomhlamnaa
/- THE CELL 'sum', in the pinned program and in every row, IS THE sha256 OF THE DUMP (.gsa) THAT YtnbfnoomhlamnaaProg.lean LOADS. Nothing in Lean hashes anything: it is a label: what it is worth is what the hold of that sum in a sandbox is worth. -/
noncomputable def Try.pinned : Pinned := { name := "ytnbfnoomhlamnaa", sum := "3d5c98c196dd5519838b09781358d8086d621dfd7ed9f9b5e3e149e3c22f2479", checked := Try.checked }
namespace Rows
def none {H : Type} : Left H := { results := [], args := [] }

/-- 'finesselaw03.SeedShuffles': WHATEVER THE INPUT: true; the input reads as it did. -/
def seedShufflesSpec : ChangeSpec := { name := "seedShuffles", fn := fun _ => fun
  | [d1, d2] => { results := [.lit (.bool true)], args := [d1, d2] }
  | _ => none }
def seedShufflesRow : OpenClaim := { program := "ytnbfnoomhlamnaa", sum := "3d5c98c196dd5519838b09781358d8086d621dfd7ed9f9b5e3e149e3c22f2479", func := "finesse/finesselaw03.SeedShuffles", spec := "seedShuffles", unfollowed := true, recurses := true, apart := false }
def SeedShufflesSaid : Prop := seedShufflesRow.holds Try.pinned (OpenSpec.ofChange seedShufflesSpec)

/-- ITS FALSE NEIGHBOUR: 'it returns false'. Refute it at one input. -/
def seedShufflesWrong : ChangeSpec := { name := "seedShuffles", fn := fun _ => fun
  | [d1, d2] => { results := [.lit (.bool false)], args := [d1, d2] }
  | _ => none }
def SeedShufflesWrongFalsely : Prop := seedShufflesRow.holds Try.pinned (OpenSpec.ofChange seedShufflesWrong)

/-- 'finesselaw03.SeedJumps': WHATEVER THE INPUT: true; the input reads as it did. -/
def seedJumpsSpec : ChangeSpec := { name := "seedJumps", fn := fun _ => fun
  | [d1, d2, d3] => { results := [.lit (.bool true)], args := [d1, d2, d3] }
  | _ => none }
def seedJumpsRow : OpenClaim := { program := "ytnbfnoomhlamnaa", sum := "3d5c98c196dd5519838b09781358d8086d621dfd7ed9f9b5e3e149e3c22f2479", func := "finesse/finesselaw03.SeedJumps", spec := "seedJumps", unfollowed := true, recurses := true, apart := false }
def SeedJumpsSaid : Prop := seedJumpsRow.holds Try.pinned (OpenSpec.ofChange seedJumpsSpec)

/-- ITS FALSE NEIGHBOUR: 'it returns false'. Refute it at one input. -/
def seedJumpsWrong : ChangeSpec := { name := "seedJumps", fn := fun _ => fun
  | [d1, d2, d3] => { results := [.lit (.bool false)], args := [d1, d2, d3] }
  | _ => none }
def SeedJumpsWrongFalsely : Prop := seedJumpsRow.holds Try.pinned (OpenSpec.ofChange seedJumpsWrong)

/-- 'finesselaw03.SeedUniform': WHATEVER THE INPUT: true; the input reads as it did. -/
def seedUniformSpec : ChangeSpec := { name := "seedUniform", fn := fun _ => fun
  | [d1, d2] => { results := [.lit (.bool true)], args := [d1, d2] }
  | _ => none }
def seedUniformRow : OpenClaim := { program := "ytnbfnoomhlamnaa", sum := "3d5c98c196dd5519838b09781358d8086d621dfd7ed9f9b5e3e149e3c22f2479", func := "finesse/finesselaw03.SeedUniform", spec := "seedUniform", unfollowed := true, recurses := true, apart := false }
def SeedUniformSaid : Prop := seedUniformRow.holds Try.pinned (OpenSpec.ofChange seedUniformSpec)

/-- ITS FALSE NEIGHBOUR: 'it returns false'. Refute it at one input. -/
def seedUniformWrong : ChangeSpec := { name := "seedUniform", fn := fun _ => fun
  | [d1, d2] => { results := [.lit (.bool false)], args := [d1, d2] }
  | _ => none }
def SeedUniformWrongFalsely : Prop := seedUniformRow.holds Try.pinned (OpenSpec.ofChange seedUniformWrong)

/-- 'finesselaw03.SeedShuffled': WHATEVER THE INPUT: true; the input reads as it did. -/
def seedShuffledSpec : ChangeSpec := { name := "seedShuffled", fn := fun _ => fun
  | [d1, d2] => { results := [.lit (.bool true)], args := [d1, d2] }
  | _ => none }
def seedShuffledRow : OpenClaim := { program := "ytnbfnoomhlamnaa", sum := "3d5c98c196dd5519838b09781358d8086d621dfd7ed9f9b5e3e149e3c22f2479", func := "finesse/finesselaw03.SeedShuffled", spec := "seedShuffled", unfollowed := true, recurses := true, apart := false }
def SeedShuffledSaid : Prop := seedShuffledRow.holds Try.pinned (OpenSpec.ofChange seedShuffledSpec)

/-- ITS FALSE NEIGHBOUR: 'it returns false'. Refute it at one input. -/
def seedShuffledWrong : ChangeSpec := { name := "seedShuffled", fn := fun _ => fun
  | [d1, d2] => { results := [.lit (.bool false)], args := [d1, d2] }
  | _ => none }
def SeedShuffledWrongFalsely : Prop := seedShuffledRow.holds Try.pinned (OpenSpec.ofChange seedShuffledWrong)

/-- 'finesselaw03.SeedTells': WHATEVER THE INPUT: true; the input reads as it did. -/
def seedTellsSpec : ChangeSpec := { name := "seedTells", fn := fun _ => fun
  | [d1, d2, d3] => { results := [.lit (.bool true)], args := [d1, d2, d3] }
  | _ => none }
def seedTellsRow : OpenClaim := { program := "ytnbfnoomhlamnaa", sum := "3d5c98c196dd5519838b09781358d8086d621dfd7ed9f9b5e3e149e3c22f2479", func := "finesse/finesselaw03.SeedTells", spec := "seedTells", unfollowed := true, recurses := true, apart := false }
def SeedTellsSaid : Prop := seedTellsRow.holds Try.pinned (OpenSpec.ofChange seedTellsSpec)

/-- ITS FALSE NEIGHBOUR: 'it returns false'. Refute it at one input. -/
def seedTellsWrong : ChangeSpec := { name := "seedTells", fn := fun _ => fun
  | [d1, d2, d3] => { results := [.lit (.bool false)], args := [d1, d2, d3] }
  | _ => none }
def SeedTellsWrongFalsely : Prop := seedTellsRow.holds Try.pinned (OpenSpec.ofChange seedTellsWrong)

/-- 'finesselaw03.SeedWrong': WHATEVER THE INPUT: true; the input reads as it did. -/
def seedWrongSpec : ChangeSpec := { name := "seedWrong", fn := fun _ => fun
  | [d1, d2, d3] => { results := [.lit (.bool true)], args := [d1, d2, d3] }
  | _ => none }
def seedWrongRow : OpenClaim := { program := "ytnbfnoomhlamnaa", sum := "3d5c98c196dd5519838b09781358d8086d621dfd7ed9f9b5e3e149e3c22f2479", func := "finesse/finesselaw03.SeedWrong", spec := "seedWrong", unfollowed := true, recurses := true, apart := false }
def SeedWrongSaid : Prop := seedWrongRow.holds Try.pinned (OpenSpec.ofChange seedWrongSpec)

/-- ITS FALSE NEIGHBOUR: 'it returns false'. Refute it at one input. -/
def seedWrongWrong : ChangeSpec := { name := "seedWrong", fn := fun _ => fun
  | [d1, d2, d3] => { results := [.lit (.bool false)], args := [d1, d2, d3] }
  | _ => none }
def SeedWrongWrongFalsely : Prop := seedWrongRow.holds Try.pinned (OpenSpec.ofChange seedWrongWrong)

/-- 'finesselaw03.SeedWide': WHATEVER THE INPUT: true; the input reads as it did. -/
def seedWideSpec : ChangeSpec := { name := "seedWide", fn := fun _ => fun
  | [d1, d2, d3] => { results := [.lit (.bool true)], args := [d1, d2, d3] }
  | _ => none }
def seedWideRow : OpenClaim := { program := "ytnbfnoomhlamnaa", sum := "3d5c98c196dd5519838b09781358d8086d621dfd7ed9f9b5e3e149e3c22f2479", func := "finesse/finesselaw03.SeedWide", spec := "seedWide", unfollowed := true, recurses := true, apart := false }
def SeedWideSaid : Prop := seedWideRow.holds Try.pinned (OpenSpec.ofChange seedWideSpec)

/-- ITS FALSE NEIGHBOUR: 'it returns false'. Refute it at one input. -/
def seedWideWrong : ChangeSpec := { name := "seedWide", fn := fun _ => fun
  | [d1, d2, d3] => { results := [.lit (.bool false)], args := [d1, d2, d3] }
  | _ => none }
def SeedWideWrongFalsely : Prop := seedWideRow.holds Try.pinned (OpenSpec.ofChange seedWideWrong)

/- THE SECOND FORM. 'bulk': how many values and letters a reading holds, each counted each time it is reached (what is shared counts as often as it is met; a slice's spare places count too). A statement '..UptoSaid' is the law's where the arguments, and the package variables that the reading takes, are together of bulk at most 1048576: NARROWER than '..Said'. Prove '..Said' where nothing that the law and all that it calls make is longer than what came in: it says more and counts as full. Else prove '..UptoSaid'. A law counts once. -/
mutual
def uptoBulk {H : Type} : DataW H → Nat
  | .lit (.string bytes) => bytes.length + 1
  | .lit _ => 1
  | .nil => 1
  | .ptr d => uptoBulk d + 1
  | .slice elems spare => uptoBulkAll elems + uptoBulkAll spare + 1
  | .agg parts => uptoBulkAll parts + 1
  | .iface _ d => uptoBulk d + 1
  | .map entries => uptoBulkEntries entries + 1
  | .held _ => 1
def uptoBulkAll {H : Type} : List (DataW H) → Nat
  | [] => 0
  | d :: r => uptoBulk d + uptoBulkAll r
def uptoBulkEntries {H : Type} : List (Lit × DataW H) → Nat
  | [] => 0
  | x :: r => uptoBulkEntry x + uptoBulkEntries r
def uptoBulkEntry {H : Type} : Lit × DataW H → Nat
  | (.string bytes, d) => bytes.length + uptoBulk d + 1
  | (_, d) => uptoBulk d + 1
 end
def uptoSmall : (H : Type) → List (DataW H) → Bool := fun _ ds => decide (uptoBulkAll ds ≤ 1048576)
def OpenSpec.upto (s : _root_.Go.ChangeSpec) : _root_.Go.OpenSpec := { _root_.Go.OpenSpec.ofChange s with cond := some uptoSmall }

/-- 'finesselaw03.SeedShuffles', WHERE WHAT IT READS IS OF BULK AT MOST 1048576: true; the input reads as it did. -/
def seedShufflesUptoRow : OpenClaim := { program := "ytnbfnoomhlamnaa", sum := "3d5c98c196dd5519838b09781358d8086d621dfd7ed9f9b5e3e149e3c22f2479", func := "finesse/finesselaw03.SeedShuffles", spec := "seedShuffles", unfollowed := true, recurses := true, apart := false, narrowed := true }
def SeedShufflesUptoSaid : Prop := seedShufflesUptoRow.holds Try.pinned (OpenSpec.upto seedShufflesSpec)

/-- 'finesselaw03.SeedJumps', WHERE WHAT IT READS IS OF BULK AT MOST 1048576: true; the input reads as it did. -/
def seedJumpsUptoRow : OpenClaim := { program := "ytnbfnoomhlamnaa", sum := "3d5c98c196dd5519838b09781358d8086d621dfd7ed9f9b5e3e149e3c22f2479", func := "finesse/finesselaw03.SeedJumps", spec := "seedJumps", unfollowed := true, recurses := true, apart := false, narrowed := true }
def SeedJumpsUptoSaid : Prop := seedJumpsUptoRow.holds Try.pinned (OpenSpec.upto seedJumpsSpec)

/-- 'finesselaw03.SeedUniform', WHERE WHAT IT READS IS OF BULK AT MOST 1048576: true; the input reads as it did. -/
def seedUniformUptoRow : OpenClaim := { program := "ytnbfnoomhlamnaa", sum := "3d5c98c196dd5519838b09781358d8086d621dfd7ed9f9b5e3e149e3c22f2479", func := "finesse/finesselaw03.SeedUniform", spec := "seedUniform", unfollowed := true, recurses := true, apart := false, narrowed := true }
def SeedUniformUptoSaid : Prop := seedUniformUptoRow.holds Try.pinned (OpenSpec.upto seedUniformSpec)

/-- 'finesselaw03.SeedShuffled', WHERE WHAT IT READS IS OF BULK AT MOST 1048576: true; the input reads as it did. -/
def seedShuffledUptoRow : OpenClaim := { program := "ytnbfnoomhlamnaa", sum := "3d5c98c196dd5519838b09781358d8086d621dfd7ed9f9b5e3e149e3c22f2479", func := "finesse/finesselaw03.SeedShuffled", spec := "seedShuffled", unfollowed := true, recurses := true, apart := false, narrowed := true }
def SeedShuffledUptoSaid : Prop := seedShuffledUptoRow.holds Try.pinned (OpenSpec.upto seedShuffledSpec)

/-- 'finesselaw03.SeedTells', WHERE WHAT IT READS IS OF BULK AT MOST 1048576: true; the input reads as it did. -/
def seedTellsUptoRow : OpenClaim := { program := "ytnbfnoomhlamnaa", sum := "3d5c98c196dd5519838b09781358d8086d621dfd7ed9f9b5e3e149e3c22f2479", func := "finesse/finesselaw03.SeedTells", spec := "seedTells", unfollowed := true, recurses := true, apart := false, narrowed := true }
def SeedTellsUptoSaid : Prop := seedTellsUptoRow.holds Try.pinned (OpenSpec.upto seedTellsSpec)

/-- 'finesselaw03.SeedWrong', WHERE WHAT IT READS IS OF BULK AT MOST 1048576: true; the input reads as it did. -/
def seedWrongUptoRow : OpenClaim := { program := "ytnbfnoomhlamnaa", sum := "3d5c98c196dd5519838b09781358d8086d621dfd7ed9f9b5e3e149e3c22f2479", func := "finesse/finesselaw03.SeedWrong", spec := "seedWrong", unfollowed := true, recurses := true, apart := false, narrowed := true }
def SeedWrongUptoSaid : Prop := seedWrongUptoRow.holds Try.pinned (OpenSpec.upto seedWrongSpec)

/-- 'finesselaw03.SeedWide', WHERE WHAT IT READS IS OF BULK AT MOST 1048576: true; the input reads as it did. -/
def seedWideUptoRow : OpenClaim := { program := "ytnbfnoomhlamnaa", sum := "3d5c98c196dd5519838b09781358d8086d621dfd7ed9f9b5e3e149e3c22f2479", func := "finesse/finesselaw03.SeedWide", spec := "seedWide", unfollowed := true, recurses := true, apart := false, narrowed := true }
def SeedWideUptoSaid : Prop := seedWideUptoRow.holds Try.pinned (OpenSpec.upto seedWideSpec)

end Rows
end Go.Proofs.Ytnbfnoomhlamnaa
