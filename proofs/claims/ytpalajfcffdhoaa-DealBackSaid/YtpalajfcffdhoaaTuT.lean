/- Texts merged: TuT, TuL. -/
import Derived.Test.YtpalajfcffdhoaaLw
/- Chapter 6: the law DealTurns: its loop. -/
namespace Go.Proofs.Ytpalajfcffdhoaa
open Go Go.Eng Go.Deal
noncomputable abbrev orcZ7 : Oracle := orcN n6 emptyTab plainL
structure DQ where
  a : Int
  b : Int
  c : Int
  d : Int
def DQ.v (q : DQ) : V := q4 q.a q.b q.c q.d
noncomputable def tuLp : Code := loopOf 4 Try.f3
def tuT (nn : Bool) : Tm := ⟨mkS [(2, .int .i64), (3, .int .i64), (9, .ptr 1 0), (10, .ptr 2 0), (23, .int .i64)] 0 96, [.rs nn 1 (.ints .u8), .own 25 u64s, .own 25 u64s], []⟩
def tuX (nn : Bool) : Tm := ⟨mkS [(2, .int .i64), (3, .int .i64), (9, .ptr 1 0), (10, .ptr 2 0)] 0 96, [.rs nn 1 (.ints .u8), .own 25 u64s, .own 25 u64s], []⟩
def ld4 {α : Type} (i : Int) (q : DQ) (K : Int → Option α) : Option α := bif decide (i = 0) then K q.a else bif decide (i = 1) then K q.b else bif decide (i = 2) then K q.c else bif decide (i = 3) then K q.d else none
def tuPs (p x : DQ) (ls : List Int) : List PV := [.l ls, .i p.a, .i p.b, .i p.c, .i p.d, .i x.a, .i x.b, .i x.c, .i x.d]
theorem tu_round (nn : Bool) (rd : Option Nat) (a b i : Int) (p x : DQ) (ls : List Int) : roundT Try.prog orcZ7 noLoops 100 1 rd 3 tuLp (tuT nn) (tuX nn) (.i a :: .i b :: .i i :: tuPs p x ls) =
    bif decide (i < 4) then ld4 (tnX i a) x fun xv => ld4 i p fun pv => bif !decide (xv = pv) then some (.ret, .i a :: .i b :: tuPs p x ls, []) else some (.normal, .i a :: .i b :: .i (wr .i64 (i + 1)) :: tuPs p x ls, [])
    else some (.exit 0, .i a :: .i b :: tuPs p x ls, []) := by cases nn <;> kernel_rfl
end Go.Proofs.Ytpalajfcffdhoaa

/- Chapter 6: the law DealTurns: its formula. -/
namespace Go.Proofs.Ytpalajfcffdhoaa
open Go Go.Eng Go.Deal
section
variable (D : D7) (C : Int → Int → DQ → DQ → Bool)
noncomputable def tuTr (nn : Bool) : List PV → Fin
  | [.i a, .i b, .i i, .l ls, .i p0, .i p1, .i p2, .i p3, .i x0, .i x1, .i x2, .i x3] => .br (C a i ⟨p0, p1, p2, p3⟩ ⟨x0, x1, x2, x3⟩) (.leaf (.exit 0) ((tuX nn).at [.i a, .i b, .l ls, .i p0, .i p1, .i p2, .i p3, .i x0, .i x1, .i x2, .i x3])) .no
  | _ => .no
noncomputable def tuL (nn : Bool) : Loops := sums (fun n => match n with | 4 => some (lsumF 1 (tuT nn) tuLp (tuTr C nn)) | _ => none)
def eqQ (p q : DQ) : Bool := decide (p.a = q.a) && (decide (p.b = q.b) && (decide (p.c = q.c) && (decide (p.d = q.d) && true)))
def eqW (x y : Int) : Bool := decide (D.n.w0 x = D.n.w0 y) && (decide (D.n.w1 x = D.n.w1 y) && (decide (D.n.w2 x = D.n.w2 y) && (decide (D.n.w3 x = D.n.w3 y) && true)))
def D7.T (k : Int) (q : DQ) : DQ := ⟨D.t0 k q.a q.b q.c q.d, D.t1 k q.a q.b q.c q.d, D.t2 k q.a q.b q.c q.d, D.t3 k q.a q.b q.c q.d⟩
def D7.U (q : DQ) : Bool := D.u q.a q.b q.c q.d
def D7.Le (q : DQ) : Int := D.le q.a q.b q.c q.d
def D7.Wy (q : DQ) : Int := D.wy q.a q.b q.c q.d
def D7.P (ls : List Int) (w : Int) : DQ := ⟨anI (D.m0 ls) w, anI (D.m1 ls) w, anI (D.m2 ls) w, anI (D.m3 ls) w⟩
def truV : Option V := some (.bool true)
noncomputable def tuRest (a b : Int) (P X : DQ) : Option V := bif D.U P then bif D.U X then bif decide (D.Le P = 0) then bif decide (D.Le X = 0) then bif eqW D (D.Wy P) (D.Wy X) then
  bif eqQ (D.T 1 (D.T 1 (D.T 1 (D.T 1 P)))) P then bif eqQ (D.T b X) (D.T (wr .i64 (a.tmod 4 + b.tmod 4)) P) then bif eqQ (D.T (wr .i64 (0 - a.tmod 4)) X) P then truV else flsV else flsV else flsV else flsV else flsV else flsV else none else none
theorem turns_eval (nn : Bool) (ls : List Int) (w a b : Int) : evalFn Try.prog (orc7 D) (tuL C nn) 100 3 Try.f3 [.gs 0, .int .u64 w, .int .i64 a, .int .i64 b] [.rs nn 1 (.ints .u8 ls)] (fun v _ => some v) =
    bif D.ok ls then cond (codesB [(tuLp, tuLp)]) (bif C a 0 (D.P ls w) (D.T a (D.P ls w)) then tuRest D a b (D.P ls w) (D.T a (D.P ls w)) else none) none else none := by cases nn <;> kernel_rfl
end
end Go.Proofs.Ytpalajfcffdhoaa
