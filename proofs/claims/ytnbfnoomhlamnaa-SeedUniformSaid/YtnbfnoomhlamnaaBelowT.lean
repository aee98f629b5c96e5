/- Chapter 3: the states of the loop in which Below draws. -/
import Derived.Test.YtnbfnoomhlamnaaNext
namespace Go.Proofs.Ytnbfnoomhlamnaa
open Go Go.Eng
noncomputable def belowLp : Code := loopOf 3 Try.f35
def belowT : Tm := ⟨[some (.func 34 [.ptr 0 0]), some (.func 36 [.ptr 1 0]), o, o, o, some (.int .i64), o, o, some (.int .i64), o, o, o, o, o, o, o, o], [.own 22 (.vs [.int .i64]), .own 3 (.vs [.int .i64])], []⟩
def belowX : Tm := ⟨[o, o, o, o, o, some (.int .i64), o, o, o, o, o, o, o, o, o, o, o], [.own 22 (.vs [.int .i64]), .own 3 (.vs [.int .i64])], []⟩
end Go.Proofs.Ytnbfnoomhlamnaa
