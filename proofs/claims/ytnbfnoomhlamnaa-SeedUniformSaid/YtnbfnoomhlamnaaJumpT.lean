/- Chapter 3: the states of the loop in which the powers are yielded to Jump. -/
import Derived.Test.YtnbfnoomhlamnaaErr
import Derived.Test.YtnbfnoomhlamnaaEng3
namespace Go.Proofs.Ytnbfnoomhlamnaa
open Go Go.Eng

def u : TV := .tuple []
def o : Option TV := none
noncomputable def jumpA : Code := rangeA 6 Try.f13
noncomputable def jumpB : Code := rangeB 6 Try.f13
noncomputable def jumpLp : Code := loopOf 2 Try.f54
noncomputable def jumpT : Tm := ⟨[some (.yield 3), o, o, some (.int .i64), some (.int .i64), o, o, o, o, o, o, o, o, o, o, o, o, o, o, o, o, o, o],
  [.own 3 (.vs [.int .i64]), .dead, .defs, .loopB false 13 [some (.int .i64), some (.int .i64), some u, some u, some (.lit .i64 0), some (.lit .i64 0), some (.ptr 0 0), some u, some (.int .i64), some .bool, some .bool,
    some (.int .i64), some (.int .i64), some (.int .i64), some (.func 54 [.ptr 1 0]), some u, some u, some u, some u, some u, some u] [15] jumpA jumpB 2], []⟩
def jumpC (s k s2 : Int) (b1 b2 : Bool) (s3 k2 r : Int) : List PV := [.i s, .i k, .i s2, .b b1, .b b2, .i s3, .i k2, .i r]
def jumpP (p l a : Int) (c : List PV) : List PV := .i p :: .i l :: .i a :: c
end Go.Proofs.Ytnbfnoomhlamnaa
