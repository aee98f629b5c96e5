/- Chapter 3: the states of the loops of SeedShuffled. -/
import Derived.Test.YtnbfnoomhlamnaaShuf3
namespace Go.Proofs.Ytnbfnoomhlamnaa
open Go Go.Eng
noncomputable def lsLp1 : Code := loopOf 8 Try.f6
noncomputable def lsLp2 : Code := loopOf 17 Try.f6
noncomputable def lsLp3 : Code := loopOf 24 Try.f6
def lsS : List (Nat × TV) := [(1, .view 0 1), (4, .bool), (5, .int .i64), (6, .int .i64), (7, .gs 1), (8, .int .i64)]
def lsB : List TB := [.rs true 1 (.ints .i64), .grow true 3 1 (.ints .i64)]
def lsT0 : Tm := ⟨mkS (lsS ++ [(9, .nil), (39, .int .i64), (40, .int .i64)]) 0 152, lsB, []⟩
def lsT1 : Tm := ⟨mkS (lsS ++ [(9, .gs 2), (39, .int .i64), (40, .int .i64)]) 0 152, lsB ++ [.grow false 3 1 (.ints .i64)], []⟩
def lsP (l n : Nat) (r : Bool) (s a e m i : Int) (xs out : List Int) (ps : List PV) : List PV := .n l :: .n n :: .b r :: .i s :: .i a :: .i e :: .i m :: .i i :: .l xs :: .l out :: ps
end Go.Proofs.Ytnbfnoomhlamnaa
