/- Chapter 4: CardOne at one number. -/
import Derived.Test.YtbocdcnkmcejjaaDoorAwake
import Derived.Test.YtbocdcnkmcejjaaDoorEngPoint
namespace Go.Proofs.YtbocdcnkmcejjaaDoor
open Go Go.Eng
noncomputable abbrev runOne (c : Nat) : Bool := runB (evalFn Tryd.prog (orcA tabP plainL) noLoops 100 4 Tryd.f4 [.int .u8 (Int.ofNat c)] gH (fun v _ => some (chkB true v)))
end Go.Proofs.YtbocdcnkmcejjaaDoor
