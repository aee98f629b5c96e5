/- Texts merged: BaT, BaL. -/
import Derived.Test.YtpalajfcffdhoaaTuq
/- Chapter 6: the law DealBack: its loop, run whole. -/
namespace Go.Proofs.Ytpalajfcffdhoaa
open Go Go.Eng Go.Deal
noncomputable def baLp : Code := loopOf 16 Try.f6
def baBk (nn : Bool) : List TB := [.rs nn 1 (.ints .u8), .own 30 n4, .own 30 n4, .own 25 u64s, .own 30 n4, .own 25 u64s, .own 25 u64s]
def baT (nn : Bool) : Tm := ⟨mkS [(6, .ptr 1 0), (7, .ptr 2 0), (10, .ptr 3 0), (11, .ptr 4 0), (15, .ptr 5 0), (17, .ptr 6 0), (21, .int .i64), (22, .int .i64)] 0 180, baBk nn, []⟩
def baX (nn : Bool) : Tm := ⟨mkS [(6, .ptr 1 0), (7, .ptr 2 0), (10, .ptr 3 0), (11, .ptr 4 0), (15, .ptr 5 0), (17, .ptr 6 0), (21, .int .i64)] 0 180, baBk nn, []⟩
def baPs (ls : List Int) (a b P W X Y : DQ) : List PV := [.l ls, .i a.a, .i a.b, .i a.c, .i a.d, .i b.a, .i b.b, .i b.c, .i b.d, .i P.a, .i P.b, .i P.c, .i P.d, .i W.a, .i W.b, .i W.c, .i W.d, .i X.a, .i X.b, .i X.c, .i X.d, .i Y.a, .i Y.b, .i Y.c, .i Y.d]
def bsS (ls : List Int) (a b P W X Y : DQ) (p x y o : Int) (K : Int → RT) : RT := bif !decide (anI p x = 0) then some (.ret, .i o :: baPs ls a b P W X Y, []) else bif !decide (x = y) then bif decide (x < y) then K (-1) else K 1 else K o
theorem ba_r3 (nn : Bool) (rd : Option Nat) (ls : List Int) (a b P W X Y : DQ) (o : Int) : roundT Try.prog orcZ7 noLoops 100 1 rd 6 baLp (baT nn) (baX nn) (.i o :: .i 3 :: baPs ls a b P W X Y) =
    bif !decide (anI P.d X.d = 0) then some (.ret, .i o :: baPs ls a b P W X Y, []) else some (.normal, .i o :: .i 2 :: baPs ls a b P W X Y, []) := by cases nn <;> kernel_rfl
theorem ba_r2 (nn : Bool) (rd : Option Nat) (ls : List Int) (a b P W X Y : DQ) (o : Int) : roundT Try.prog orcZ7 noLoops 100 1 rd 6 baLp (baT nn) (baX nn) (.i o :: .i 2 :: baPs ls a b P W X Y) =
    bsS ls a b P W X Y P.c X.c Y.c o fun o => some (.normal, .i o :: .i 1 :: baPs ls a b P W X Y, []) := by cases nn <;> kernel_rfl
theorem ba_r1 (nn : Bool) (rd : Option Nat) (ls : List Int) (a b P W X Y : DQ) (o : Int) : roundT Try.prog orcZ7 noLoops 100 1 rd 6 baLp (baT nn) (baX nn) (.i o :: .i 1 :: baPs ls a b P W X Y) =
    bsS ls a b P W X Y P.b X.b Y.b o fun o => some (.normal, .i o :: .i 0 :: baPs ls a b P W X Y, []) := by cases nn <;> kernel_rfl
theorem ba_r0 (nn : Bool) (rd : Option Nat) (ls : List Int) (a b P W X Y : DQ) (o : Int) : roundT Try.prog orcZ7 noLoops 100 1 rd 6 baLp (baT nn) (baX nn) (.i o :: .i 0 :: baPs ls a b P W X Y) =
    bsS ls a b P W X Y P.a X.a Y.a o fun o => some (.normal, .i o :: .i (-1) :: baPs ls a b P W X Y, []) := by cases nn <;> kernel_rfl
theorem ba_rm (nn : Bool) (rd : Option Nat) (ls : List Int) (a b P W X Y : DQ) (o : Int) : roundT Try.prog orcZ7 noLoops 100 1 rd 6 baLp (baT nn) (baX nn) (.i o :: .i (-1) :: baPs ls a b P W X Y) =
    some (.exit 0, .i o :: baPs ls a b P W X Y, []) := by cases nn <;> kernel_rfl
end Go.Proofs.Ytpalajfcffdhoaa

/- Chapter 6: the law DealBack: its formula. -/
namespace Go.Proofs.Ytpalajfcffdhoaa
open Go Go.Eng Go.Deal
section
variable (D : D7) (Cb : DQ → DQ → DQ → Int → Int → Bool) (OR : DQ → DQ → DQ → Int)
def D7.C (q : DQ) (n : Int) : DQ := ⟨D.c0 q.a q.b q.c q.d n, D.c1 q.a q.b q.c q.d n, D.c2 q.a q.b q.c q.d n, D.c3 q.a q.b q.c q.d n⟩
def D7.Ce (q : DQ) (n : Int) : Int := D.ce q.a q.b q.c q.d n
def D7.Ix (q r : DQ) : Int := D.ix q.a q.b q.c q.d r.a r.b r.c r.d
def D7.Ie (q r : DQ) : Int := D.ie q.a q.b q.c q.d r.a r.b r.c r.d
def D7.Rg (q : DQ) : Bool := D.rg q.a q.b q.c q.d
def D7.M (ls : List Int) : DQ := ⟨D.m0 ls, D.m1 ls, D.m2 ls, D.m3 ls⟩
def baE (P : DQ) (W A B : Int) (o : Int) : Option V := bif D.U P && D.n.i W then bif D.n.i A && D.n.i B then bif decide (o = D.n.cmp (D.n.q A) (D.n.q B)) then
  bif eqQ (D.C P (D.n.q W)) ⟨0, 0, 0, 0⟩ then bif decide (D.Ce P (D.n.q W) = 6) then truV else flsV else flsV else flsV else none else none
noncomputable def ba2 (P X Y : DQ) (W A B : Int) : Option V := bif D.U P && D.U X then bif !decide (D.n.divE (D.n.q W) = 0) then flsV else bif !decide (D.n.divE (D.n.q W) = 0) then flsV else bif !decide (D.Ce P (D.n.q A) = 0) then flsV else
  bif !decide (D.Ce P (D.n.q B) = 0) then flsV else bif !decide (D.Ie P X = 0) then flsV else bif !eqW D (D.Ix P X) A then flsV else bif D.U X then bif !D.Rg X then flsV else cond (codesB [(baLp, baLp)]) (bif Cb P X Y 0 3 then baE D P W A B (OR P X Y) else none) none else none else none
noncomputable def ba1 (P M : DQ) (W N : Int) (a b c d e f g h : Int) : Option V := bif !decide (D.Le P = 0) then flsV else bif !decide (D.Ie P M = 0) then flsV else bif !decide (D.Ce P (D.n.q N) = 0) then flsV else bif !eqQ (D.C P (D.n.q N)) M then flsV else
  bif D.n.i N && D.n.i W then bif decide (0 ≤ D.n.cmp (D.n.q N) (D.n.q W)) then flsV else
  bif D.n.inn a b c d && D.n.i W then bif D.n.inn e f g h && D.n.i W then bif D.U P && D.n.i (D.n.rem (D.n.z a b c d) (D.n.q W)) then bif D.U P && D.n.i (D.n.rem (D.n.z e f g h) (D.n.q W)) then
    ba2 D Cb OR P (D.C P (D.n.q (D.n.rem (D.n.z a b c d) (D.n.q W)))) (D.C P (D.n.q (D.n.rem (D.n.z e f g h) (D.n.q W)))) W (D.n.rem (D.n.z a b c d) (D.n.q W)) (D.n.rem (D.n.z e f g h) (D.n.q W))
  else none else none else none else none else none
noncomputable def baTr (nn : Bool) : List PV → Fin
  | .i o :: .i s :: .l ls :: .i a0 :: .i a1 :: .i a2 :: .i a3 :: .i b0 :: .i b1 :: .i b2 :: .i b3 :: .i p0 :: .i p1 :: .i p2 :: .i p3 :: .i w0 :: .i w1 :: .i w2 :: .i w3 :: .i x0 :: .i x1 :: .i x2 :: .i x3 :: r => match r with
    | [.i y0, .i y1, .i y2, .i y3] => .br (Cb ⟨p0, p1, p2, p3⟩ ⟨x0, x1, x2, x3⟩ ⟨y0, y1, y2, y3⟩ o s)
      (.leaf (.exit 0) ((baX nn).at (.i (OR ⟨p0, p1, p2, p3⟩ ⟨x0, x1, x2, x3⟩ ⟨y0, y1, y2, y3⟩) :: baPs ls ⟨a0, a1, a2, a3⟩ ⟨b0, b1, b2, b3⟩ ⟨p0, p1, p2, p3⟩ ⟨w0, w1, w2, w3⟩ ⟨x0, x1, x2, x3⟩ ⟨y0, y1, y2, y3⟩))) .no
    | _ => .no
  | _ => .no
noncomputable def baLL (nn : Bool) : Loops := sums (fun n => match n with | 16 => some (lsumF 1 (baT nn) baLp (baTr Cb OR nn)) | _ => none)
theorem back_eval (nn : Bool) (ls : List Int) (w a b c d e f g h : Int) : evalFn Try.prog (orc7 D) (baLL Cb OR nn) 100 6 Try.f6 [.gs 0, .int .u64 w, .agg [.int .u32 a, .int .u32 b, .int .u32 c, .int .u32 d], .agg [.int .u32 e, .int .u32 f, .int .u32 g, .int .u32 h]] [.rs nn 1 (.ints .u8 ls)] (fun v _ => some v) =
    bif D.ok ls then bif D.ok ls then bif D.U (D.P ls w) then bif D.U (D.P ls w) && D.U (D.M ls) then bif D.U (D.P ls w) && D.n.i (D.Ix (D.P ls w) (D.M ls)) then
      ba1 D Cb OR (D.P ls w) (D.M ls) (D.Wy (D.P ls w)) (D.Ix (D.P ls w) (D.M ls)) a b c d e f g h else none else none else none else none else none := by cases nn <;> kernel_rfl
end
end Go.Proofs.Ytpalajfcffdhoaa
