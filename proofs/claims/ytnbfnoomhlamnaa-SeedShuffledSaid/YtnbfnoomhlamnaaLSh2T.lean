/- Chapter 3: the states of SeedShuffled's second and third loops. -/
import Derived.Test.YtnbfnoomhlamnaaLSh1
namespace Go.Proofs.Ytnbfnoomhlamnaa
open Go Go.Eng
def lsS2 : List (Nat × TV) := [(1, .view 0 1), (4, .bool), (5, .int .i64), (6, .int .i64), (7, .gs 1), (14, .gs 2)]
def lsB2 : List TB := [.rs true 1 (.ints .i64), .grow true 3 1 (.ints .i64), .grow true 3 1 (.ints .i64)]
def lsT2 : Tm := ⟨mkS (lsS2 ++ [(81, .gs 3), (82, .int .i64), (83, .int .i64)]) 0 152, lsB2 ++ [.grow true 3 1 (.ints .i64)], []⟩
def lsX2 : Tm := ⟨mkS lsS2 0 152, lsB2, []⟩
def lsT3 : Tm := ⟨mkS ([(1, .view 0 1), (4, .bool), (5, .int .i64), (6, .int .i64), (7, .gs 1)] ++ [(114, .gs 2), (115, .int .i64), (116, .int .i64)]) 0 152, lsB2, []⟩
def lsX3 : Tm := ⟨mkS [(1, .view 0 1), (4, .bool), (5, .int .i64), (6, .int .i64), (7, .gs 1)] 0 152, [.rs true 1 (.ints .i64), .grow true 3 1 (.ints .i64)], []⟩
def lsP2 (l n : Nat) (r : Bool) (s a m i : Int) (xs out met ord : List Int) : List PV := [.n l, .n n, .b r, .i s, .i a, .i m, .i i, .l xs, .l out, .l met, .l ord]
def lsQ2 (l n : Nat) (r : Bool) (s a : Int) (xs out met : List Int) : List PV := [.n l, .n n, .b r, .i s, .i a, .l xs, .l out, .l met]
def lsP3 (l n : Nat) (r : Bool) (s a m i : Int) (xs out met : List Int) : List PV := [.n l, .n n, .b r, .i s, .i a, .i m, .i i, .l xs, .l out, .l met]
def lsQ3 (l n : Nat) (r : Bool) (s a : Int) (xs out : List Int) : List PV := [.n l, .n n, .b r, .i s, .i a, .l xs, .l out]
end Go.Proofs.Ytnbfnoomhlamnaa
