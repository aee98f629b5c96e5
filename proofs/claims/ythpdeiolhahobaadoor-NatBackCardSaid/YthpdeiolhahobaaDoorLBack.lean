/- Chapter 2: the law NatBack: its formula. -/
import Derived.Test.YthpdeiolhahobaaDoorLWrong2
namespace Go.Proofs.YthpdeiolhahobaaDoor
open Go Go.Eng
def NW.eq4 (N : NW) (x a b c d : Int) : Bool := decide (N.w0 x = a) && (decide (N.w1 x = b) && (decide (N.w2 x = c) && (decide (N.w3 x = d) && true)))
def eqA (a b c d e f g h : Int) : Bool := decide (a = e) && (decide (b = f) && (decide (c = g) && (decide (d = h) && true)))
def lbFin (N : NW) (A a b c d : Int) : Option V := bif decide (wr .i64 (N.intE A + N.ofE (N.int A)) = 0) then some (.bool (N.eq4 (N.of (N.int A)) a b c d)) else fls2
def lbEnd (N : NW) (A a b c d : Int) (ia : Bool) : Option V := bif decide (N.intE A = 3) then bif decide (N.int A = 0) then bif ia && N.inn 4294967295 2147483647 0 0 then bif decide (0 < N.cmp A (N.z 4294967295 2147483647 0 0)) then some (.bool true) else lbFin N A a b c d else none else lbFin N A a b c d else lbFin N A a b c d
def lbMid (N : NW) (A a b c d n : Int) (ia : Bool) : Option V := bif N.ofC n then bif decide (n < 0) then bif decide (N.ofE n = 21) then some (.bool (N.eq4 (N.of n) 0 0 0 0)) else fls2 else
  bif N.iq (N.of n) then bif ia then bif !decide (wr .i64 (N.ofE n + N.intE (N.q4 (N.of n))) = 0) then fls2 else bif !decide (N.int (N.q4 (N.of n)) = n) then fls2 else bif N.ofC (N.int A) then lbEnd N A a b c d ia else none else none else none else none
def lbO (N : NW) (A B a b c d e f g h n : Int) (ia ib : Bool) (o1 : Int) : Option V := bif ia && ib then bif !decide (N.cmp A B = o1) then fls2 else bif !(bif decide (o1 = 0) then eqA a b c d e f g h else !eqA a b c d e f g h) then fls2 else lbMid N A a b c d n ia else none
def lbAll (N : NW) (S T : ByteArray) (A B a b c d e f g h n : Int) (ia ib : Bool) : Option V := bif ia then bif ib then bif N.rdC S then bif !decide (N.rdE S = 0) then fls2 else bif !N.eq4 (N.rd S) a b c d then fls2 else bif strEq S ⟨#[]⟩ then fls2 else
  bif !decide (Int.ofNat (lenS S) = Int.ofNat (lenS T)) then bif decide (Int.ofNat (lenS S) < Int.ofNat (lenS T)) then lbO N A B a b c d e f g h n ia ib (-1) else lbO N A B a b c d e f g h n ia ib 1 else
  bif strLt S T then lbO N A B a b c d e f g h n ia ib (-1) else bif !(strLt S T || strEq S T) then lbO N A B a b c d e f g h n ia ib 1 else lbO N A B a b c d e f g h n ia ib 0 else none else none else none
theorem back_eval (N : NW) (a b c d e f g h n : Int) : evalFn Tryd.prog (orcW N) noLoops 200 9 Tryd.f9 [.agg [.int .u32 a, .int .u32 b, .int .u32 c, .int .u32 d], .agg [.int .u32 e, .int .u32 f, .int .u32 g, .int .u32 h], .int .i64 n] [] (fun v _ => some v) =
    lbAll N (N.tx (N.z a b c d)) (N.tx (N.z e f g h)) (N.z a b c d) (N.z e f g h) a b c d e f g h n (N.inn a b c d) (N.inn e f g h) := by kernel_rfl
end Go.Proofs.YthpdeiolhahobaaDoor
