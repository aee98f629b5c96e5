/- Chapter 3: SeedUniform: the contracts as names. -/
import Derived.Test.YtnbfnoomhlamnaaUni
import Derived.Test.YtnbfnoomhlamnaaBelow
import Derived.Test.YtnbfnoomhlamnaaPow
namespace Go.Proofs.Ytnbfnoomhlamnaa
open Go Go.Eng
/-- The functions that SeedUniform calls, as names alone. -/
structure NU where
  js : Int → Int → Int
  je : Int → Int
  bs : Int → Int → Int
  bv : Int → Int → Int
  be : Int → Int → Int
def nU : NU := ⟨jumpI, fun s => errI (rightB s), belowS, belowV, fun s n => errI (!belowB s n)⟩
def uJump (U : NU) : List V → Option (Bool × V)
  | [.int .i64 s, .int .i64 k] => some (true, .tuple [.int .i64 (U.js s k), .int .i64 (U.je s)])
  | _ => none
def uBelow (U : NU) : List V → Option (Bool × V)
  | [.int .i64 s, .int .i64 n] => some (true, .tuple [.int .i64 (U.bs s n), .int .i64 (U.bv s n), .int .i64 (U.be s n)])
  | _ => none
def tabU (U : NU) : PTab := addTab 11 gAwake (addTab 13 (uJump U) (addTab 17 (uBelow U) emptyTab))
theorem tabU_ok : PTabOk Try.prog (tabU nU) := by
  refine addTab_ok gAwake_ok (addTab_ok ?_ (addTab_ok ?_ emptyTab_ok))
  · intro args c v h _
    unfold uJump at h
    split at h
    · cases h; exact jump_pure _ _
    · cases h
  · intro args c v h _
    unfold uBelow at h
    split at h
    · cases h; exact below_pure _ _
    · cases h
end Go.Proofs.Ytnbfnoomhlamnaa
