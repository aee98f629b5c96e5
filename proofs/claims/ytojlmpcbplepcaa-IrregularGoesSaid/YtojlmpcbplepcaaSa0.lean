/- Chapter 10: IrregularStays: a round, seat 0 in turn. -/
import Derived.Test.YtojlmpcbplepcaaMd3
namespace Go.Proofs.Ytojlmpcbplepcaa
open Go Go.Eng
theorem sa_round0 (N : NL) (Q : NQ) (rd : Option Nat) (r : Bool) (k : Nat) (n i : Int) (ws xs ac : List Int) (s : CD) : roundT Try.prog (orcQ N Q false 0 0) noLoops 100 1 rd 4 saLp saT saX (saIn r k n i ws s xs ac) =
    bif decide (i < n) then bif decide (0 ≤ i ∧ i < Int.ofNat k ∧ 0 + k ≤ ws.length / 3) then bif decide (i.toNat * 3 + 3 ≤ ws.length) then
      saE Q s xs ac (bif !!decide (Int.ofNat (N.F.LV s xs ac).length = 0) then saF ws s xs ac else saP N ws s xs ac s.p.a (saX2 N r k n i ws s xs ac (aX ws (i.toNat * 3)) (aB ws (i.toNat * 3)) (aW ws (i.toNat * 3))))
    else none else none else some (.exit 0, saOut r ws s xs ac, []) := by kernel_rfl
end Go.Proofs.Ytojlmpcbplepcaa
