/- Chapter 3: the states of the loop in which Shuffle swaps. -/
import Derived.Test.YtnbfnoomhlamnaaBelow
import Derived.Test.YtnbfnoomhlamnaaEngLocal3
namespace Go.Proofs.Ytnbfnoomhlamnaa
open Go Go.Eng
noncomputable def shufLp : Code := loopOf 7 Try.f18
def shufT (nn : Bool) : Tm := ⟨[some (.int .i64), o, o, o, o, o, o, some (.gs 1), some (.int .i64), o, o, o, o, o, o, o, o, o, o, o, o, o, o, o, o, o, o, o, o, o, o, o, o, o, o, o, o, o, o, o, o, o, o, o, o, o, o, o, o],
  [.rs nn 1 (.ints .i64), .grow true 3 1 (.ints .i64)], []⟩
end Go.Proofs.Ytnbfnoomhlamnaa
