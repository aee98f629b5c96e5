/- Chapter 2: times and divide in the table. -/
import Derived.Test.YtpalajfcffdhoaaANat6
namespace Go.Proofs.Ytpalajfcffdhoaa.N2
open Go Go.Eng
def gTimes : List V → Option (Bool × V)
  | [.agg [.int .u32 a, .int .u32 b, .int .u32 c, .int .u32 d], .agg [.int .u32 e, .int .u32 f, .int .u32 g, .int .u32 h]] => some (inN a b c d && inN e f g h, .tuple [nW (nval a b c d * nval e f g h), .bool (decide (nval a b c d * nval e f g h < 340282366920938463463374607431768211456))])
  | _ => none
def gDivide : List V → Option (Bool × V)
  | [.agg [.int .u32 a, .int .u32 b, .int .u32 c, .int .u32 d], .agg [.int .u32 e, .int .u32 f, .int .u32 g, .int .u32 h]] => some ((inN a b c d && inN e f g h) && decide (1 ≤ nval e f g h), .tuple [nW (nval a b c d / nval e f g h), nW (nval a b c d % nval e f g h)])
  | _ => none
def tabD : PTab := addTab 72 gTimes (addTab 50 gDivide tabA)
theorem tabD_ok : PTabOk Try.prog tabD := by
  refine addTab_ok ?_ (addTab_ok ?_ tabA_ok)
  · intro args c v h hc
    unfold gTimes at h
    split at h
    · cases h; simp only [Bool.and_eq_true] at hc; exact times_p hc.1 hc.2
    · cases h
  · intro args c v h hc
    unfold gDivide at h
    split at h
    · cases h; simp only [Bool.and_eq_true, decide_eq_true_eq] at hc; exact divide_p hc.1.1 hc.1.2 hc.2
    · cases h
end Go.Proofs.Ytpalajfcffdhoaa.N2
