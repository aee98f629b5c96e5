/- Chapter 2: the law NatDivides. -/
import Derived.Test.YthpdeiolhahobaaDoorAwake2
namespace Go.Proofs.YthpdeiolhahobaaDoor
open Go Go.Eng
def fls : Option V := some (.bool false)
/-- A number that has come back as words. -/
def q4 (z : Int) : Int := nval (w0 z) (w1 z) (w2 z) (w3 z)
def iq (z : Int) : Bool := inN (w0 z) (w1 z) (w2 z) (w3 z)
def eqW (z a b c d : Int) : Bool := decide (w0 z = a) && (decide (w1 z = b) && (decide (w2 z = c) && (decide (w3 z = d) && true)))
def ndEnd (A B : Int) (i : Bool) : Option V := bif i then bif i then bif (bif decide (subE A B = 21) then decide (cmpI A B < 0) else !decide (cmpI A B < 0)) then bif i then some (.bool (bif decide (subE A B = 0) then decide (0 ≤ cmpI A B) else !decide (0 ≤ cmpI A B))) else none else fls else none else none
def ndMul (A B a b c d : Int) (i ib : Bool) : Option V := bif i then bif decide (mulE A B = 0) then bif iq (mulZ A B) && ib then bif !eqW (divZ (q4 (mulZ A B)) B) a b c d then fls else bif !eqW (remZ (q4 (mulZ A B)) B) 0 0 0 0 then fls else bif !decide (divE B = 0) then fls else ndEnd A B i else none else ndEnd A B i else none
def ndAdd (A B a b c d : Int) (i ib : Bool) : Option V := bif i then bif decide (addE A B = 0) then bif iq (addZ A B) && ib then bif !eqW (subZ (q4 (addZ A B)) B) a b c d then fls else bif !decide (subE (q4 (addZ A B)) B = 0) then fls else ndMul A B a b c d i ib else none else ndMul A B a b c d i ib else none
def ndSum (A B : Int) : Int := wr .i64 (wr .i64 (wr .i64 (wr .i64 (divE B + mulE (q4 (divZ A B)) B) + addE (q4 (mulZ (q4 (divZ A B)) B)) (q4 (remZ A B))) + divE (q4 (gcdZ A B))) + divE (q4 (gcdZ A B)))
def ndMain (A B a b c d : Int) (ia ib : Bool) : Option V := bif ia && ib then bif iq (divZ A B) && ib then bif iq (mulZ (q4 (divZ A B)) B) && iq (remZ A B) then bif ia && iq (gcdZ A B) then bif ib && iq (gcdZ A B) then
    bif !decide (ndSum A B = 0) then fls else bif !eqW (addZ (q4 (mulZ (q4 (divZ A B)) B)) (q4 (remZ A B))) a b c d then fls else
    bif iq (remZ A B) && ib then bif decide (0 ≤ cmpI (q4 (remZ A B)) B) then fls else bif !eqW (remZ A (q4 (gcdZ A B))) 0 0 0 0 then fls else bif !eqW (remZ B (q4 (gcdZ A B))) 0 0 0 0 then fls else
    bif iq (divZ A (q4 (gcdZ A B))) && iq (divZ B (q4 (gcdZ A B))) then bif !eqW (gcdZ (q4 (divZ A (q4 (gcdZ A B)))) (q4 (divZ B (q4 (gcdZ A B))))) 1 0 0 0 then fls else ndAdd A B a b c d (ia && ib) ib
    else none else none else none else none else none else none else none
def ndAll (A B a b c d e f g h : Int) (ia ib : Bool) : Option V := bif ia && ib then bif isZ e f g h then bif ia && ib then bif decide (divE B = 2) then some (.bool (eqW (gcdZ A B) a b c d)) else fls else none else ndMain A B a b c d ia ib else none
theorem nd_all (a b c d e f g h : Int) : evalFn Tryd.prog (orcM tabG plainL) noLoops 200 7 Tryd.f7 [.agg [.int .u32 a, .int .u32 b, .int .u32 c, .int .u32 d], .agg [.int .u32 e, .int .u32 f, .int .u32 g, .int .u32 h]] [] (fun v _ => some v) =
    ndAll (nval a b c d) (nval e f g h) a b c d e f g h (inN a b c d) (inN e f g h) := by kernel_rfl
end Go.Proofs.YthpdeiolhahobaaDoor
