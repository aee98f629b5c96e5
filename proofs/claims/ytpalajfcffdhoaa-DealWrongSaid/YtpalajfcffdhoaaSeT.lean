/- Texts merged: SeT, SeL. -/
import Derived.Test.YtpalajfcffdhoaaBaq
/- Chapter 6: the law DealSeats: its loop, seat by seat. -/
namespace Go.Proofs.Ytpalajfcffdhoaa
open Go Go.Eng Go.Deal
noncomputable def seLp : Code := loopOf 9 Try.f4
def seT (nn : Bool) : Tm := ⟨mkS [(0, .gs 0), (2, .int .u8), (7, .ptr 1 0), (10, .ptr 2 0), (12, .ptr 3 0), (62, .int .i64)] 0 147, [.rs nn 1 (.ints .u8), .own 25 u64s, .own 30 n4, .own 30 n4], []⟩
def seX (nn : Bool) : Tm := ⟨mkS [(0, .gs 0), (2, .int .u8), (7, .ptr 1 0), (10, .ptr 2 0), (12, .ptr 3 0)] 0 147, [.rs nn 1 (.ints .u8), .own 25 u64s, .own 30 n4, .own 30 n4], []⟩
def sePs (ls : List Int) (P W S : DQ) : List PV := [.l ls, .i P.a, .i P.b, .i P.c, .i P.d, .i W.a, .i W.b, .i W.c, .i W.d, .i S.a, .i S.b, .i S.c, .i S.d]
section
variable (D : D7)
def DQ.w (z : Int) : DQ := ⟨D.n.w0 z, D.n.w1 z, D.n.w2 z, D.n.w3 z⟩
def D7.Pb (q : DQ) : Bool := D.pb q.a q.b q.c q.d
def seRest (ls : List Int) (c s : Int) (P W S q : DQ) : RT := bif D.U q && decide (0 ≤ c) then bif !decide (D.Le q = 0) then some (.ret, .i c :: sePs ls P W S, []) else bif !D.ob q.a q.b q.c q.d c then some (.ret, .i c :: sePs ls P W S, []) else
  bif !decide (wr .i64 (D.oi q.a q.b q.c q.d c) = s) then some (.ret, .i c :: sePs ls P W S, []) else
  bif D.n.inn S.a S.b S.c S.d && D.n.i (D.Wy q) then some (.normal, .i c :: .i (s + 1) :: sePs ls P W (DQ.w D (D.n.add (D.n.z S.a S.b S.c S.d) (D.n.q (D.Wy q)))), []) else none else none
def seR (ls : List Int) (c s : Int) (P W S q : DQ) : RT := bif decide (c < 0) then none else bif D.U q then bif decide (D.Le q = 60) then bif D.U q then bif !D.Pb q then some (.normal, .i c :: .i (s + 1) :: sePs ls P W S, []) else seRest D ls c s P W S q else none else seRest D ls c s P W S q else none
theorem se_r0 (nn : Bool) (rd : Option Nat) (ls : List Int) (c : Int) (P W S : DQ) : roundT Try.prog (orc7 D) noLoops 100 1 rd 4 seLp (seT nn) (seX nn) (.i c :: .i 0 :: sePs ls P W S) = seR D ls c 0 P W S ⟨orI P.a (shlI c), P.b, P.c, P.d⟩ := by cases nn <;> kernel_rfl
theorem se_r1 (nn : Bool) (rd : Option Nat) (ls : List Int) (c : Int) (P W S : DQ) : roundT Try.prog (orc7 D) noLoops 100 1 rd 4 seLp (seT nn) (seX nn) (.i c :: .i 1 :: sePs ls P W S) = seR D ls c 1 P W S ⟨P.a, orI P.b (shlI c), P.c, P.d⟩ := by cases nn <;> kernel_rfl
theorem se_r2 (nn : Bool) (rd : Option Nat) (ls : List Int) (c : Int) (P W S : DQ) : roundT Try.prog (orc7 D) noLoops 100 1 rd 4 seLp (seT nn) (seX nn) (.i c :: .i 2 :: sePs ls P W S) = seR D ls c 2 P W S ⟨P.a, P.b, orI P.c (shlI c), P.d⟩ := by cases nn <;> kernel_rfl
theorem se_r3 (nn : Bool) (rd : Option Nat) (ls : List Int) (c : Int) (P W S : DQ) : roundT Try.prog (orc7 D) noLoops 100 1 rd 4 seLp (seT nn) (seX nn) (.i c :: .i 3 :: sePs ls P W S) = seR D ls c 3 P W S ⟨P.a, P.b, P.c, orI P.d (shlI c)⟩ := by cases nn <;> kernel_rfl
theorem se_r4 (nn : Bool) (rd : Option Nat) (ls : List Int) (c : Int) (P W S : DQ) : roundT Try.prog (orc7 D) noLoops 100 1 rd 4 seLp (seT nn) (seX nn) (.i c :: .i 4 :: sePs ls P W S) = some (.exit 0, .i c :: sePs ls P W S, []) := by cases nn <;> kernel_rfl
end
end Go.Proofs.Ytpalajfcffdhoaa

/- Chapter 6: the law DealSeats: its formula. -/
namespace Go.Proofs.Ytpalajfcffdhoaa
open Go Go.Eng Go.Deal
section
variable (D : D7) (C : Int → Int → DQ → DQ → DQ → Bool) (SM : Int → DQ → Int)
noncomputable def seTr (nn : Bool) : List PV → Fin
  | [.i c, .i s, .l ls, .i p0, .i p1, .i p2, .i p3, .i w0, .i w1, .i w2, .i w3, .i s0, .i s1, .i s2, .i s3] => .br (C c s ⟨p0, p1, p2, p3⟩ ⟨w0, w1, w2, w3⟩ ⟨s0, s1, s2, s3⟩)
      (.leaf (.exit 0) ((seX nn).at (.i c :: sePs ls ⟨p0, p1, p2, p3⟩ ⟨w0, w1, w2, w3⟩ (DQ.w D (SM c ⟨p0, p1, p2, p3⟩))))) .no
  | _ => .no
noncomputable def seLL (nn : Bool) : Loops := sums (fun n => match n with | 9 => some (lsumF 1 (seT nn) seLp (seTr D C SM nn)) | _ => none)
def D7.Lf (q : DQ) : Int := D.lf q.a q.b q.c q.d
def eqOne (x : Int) : Bool := decide (D.n.w0 x = 1) && (decide (D.n.w1 x = 0) && (decide (D.n.w2 x = 0) && (decide (D.n.w3 x = 0) && true)))
noncomputable def se2 (ls : List Int) (c : Int) (P M : DQ) : Option V := bif D.ok ls then bif D.U M then bif D.U M && D.n.inn 0 0 0 0 then bif eqW D (SM c P) (D.Wy P) then bif decide (D.Le M = 0) then bif eqOne D (D.Wy M) then
  bif decide (D.Ce M (D.n.z 0 0 0 0) = 0) then bif eqQ (D.C M (D.n.z 0 0 0 0)) M then truV else flsV else flsV else flsV else flsV else flsV else none else none else none
noncomputable def se1 (ls : List Int) (w c : Int) (P M : DQ) : Option V := bif D.U P then bif D.U P then bif !decide (D.Le P = 0) then flsV else bif !decide (D.Le P = 0) then flsV else bif decide (c < 0) then none else bif decide (bitI (D.Lf P) c = 0) then flsV else
  bif decide (c < 0) then none else bif !decide (D.Lf P = orI (w.tmod 4503599627370496) (shlI c)) then flsV else
  cond (codesB [(seLp, seLp)]) (bif C c 0 P (DQ.w D (D.Wy P)) ⟨0, 0, 0, 0⟩ then se2 D SM ls c P M else none) none else none else none
theorem seats_eval (nn : Bool) (ls : List Int) (w c : Int) : evalFn Try.prog (orc7 D) (seLL D C SM nn) 100 4 Try.f4 [.gs 0, .int .u64 w, .int .u8 c] [.rs nn 1 (.ints .u8 ls)] (fun v _ => some v) =
    bif decide (c.tmod 52 < 0) then none else bif D.ok ls then se1 D C SM ls w (c.tmod 52) (D.P ls (orI w (shlI (c.tmod 52)))) (D.M ls) else none := by cases nn <;> kernel_rfl
end
end Go.Proofs.Ytpalajfcffdhoaa
