/- Chapter 2, the reference: the states of its loops. -/
import Derived.Test.YtnbfnoomhlamnaaNaTr2
import Derived.Test.YtnbfnoomhlamnaaEng4
namespace Go.Proofs.Ytnbfnoomhlamnaa.N2
open Go Go.Eng
noncomputable def lsLp : Code := loopOf 4 Try.f85
noncomputable def adLp : Code := loopOf 4 Try.f90
noncomputable def sbLp : Code := loopOf 4 Try.f120
noncomputable def mlLp1 : Code := loopOf 3 Try.f88
noncomputable def mlLp2 : Code := loopOf 6 Try.f88
noncomputable def mlLp3 : Code := loopOf 11 Try.f88
noncomputable def ofLp : Code := loopOf 2 Try.f87
noncomputable def vlLp : Code := loopOf 3 Try.f119
def i64s : TR := .ints .i64
def two (n1 n2 : Bool) : List TB := [.rs n1 1 i64s, .rs n2 1 i64s]
def lsT (n1 n2 : Bool) : Tm := ⟨mkS [(0, .gs 0), (1, .gs 1), (4, .bool), (5, .int .i64)] 0 41, two n1 n2, []⟩
def lsX (n1 n2 : Bool) : Tm := ⟨mkS [(4, .bool)] 0 41, two n1 n2, []⟩
def adT (n1 n2 : Bool) : Tm := ⟨mkS [(0, .gs 0), (1, .gs 1), (5, .gs 2), (6, .int .i64), (7, .int .i64)] 0 52, two n1 n2 ++ [.grow false 3 1 i64s], []⟩
def adX (n1 n2 : Bool) : Tm := ⟨mkS [(5, .gs 2)] 0 52, two n1 n2 ++ [.grow false 3 1 i64s], []⟩
def sbT (n1 n2 : Bool) : Tm := ⟨mkS [(0, .gs 0), (1, .gs 1), (5, .gs 2), (6, .int .i64), (7, .int .i64)] 0 41, two n1 n2 ++ [.grow false 3 1 i64s], []⟩
def sbX (n1 n2 : Bool) : Tm := ⟨mkS [(5, .gs 2)] 0 41, two n1 n2 ++ [.grow false 3 1 i64s], []⟩
def mlT1 (n1 n2 : Bool) : Tm := ⟨mkS [(0, .gs 0), (1, .gs 1), (5, .gs 2), (6, .int .i64)] 0 70, two n1 n2 ++ [.grow true 3 1 i64s], []⟩
def mlX1 (n1 n2 : Bool) : Tm := ⟨mkS [(5, .gs 2)] 0 70, two n1 n2 ++ [.grow true 3 1 i64s], []⟩
def mlT2 (n1 n2 : Bool) : Tm := ⟨mkS [(0, .gs 0), (1, .gs 1), (5, .gs 2), (6, .int .i64), (7, .int .i64)] 0 70, two n1 n2 ++ [.grow true 3 1 i64s], []⟩
def mlT3 (n1 n2 : Bool) : Tm := ⟨mkS [(5, .gs 2), (8, .int .i64), (9, .int .i64)] 0 70, two n1 n2 ++ [.grow true 3 1 i64s], []⟩
def ofT : Tm := ⟨mkS [(0, .int .i64), (3, .gs 0)] 0 14, [.grow false 3 1 i64s], []⟩
def ofX : Tm := ⟨mkS [(3, .gs 0)] 0 14, [.grow false 3 1 i64s], []⟩
def vlT (n1 : Bool) : Tm := ⟨mkS [(0, .gs 0), (3, .int .i64), (4, .int .i64)] 0 20, [.rs n1 1 i64s], []⟩
def vlX (n1 : Bool) : Tm := ⟨mkS [(3, .int .i64)] 0 20, [.rs n1 1 i64s], []⟩
end Go.Proofs.Ytnbfnoomhlamnaa.N2
