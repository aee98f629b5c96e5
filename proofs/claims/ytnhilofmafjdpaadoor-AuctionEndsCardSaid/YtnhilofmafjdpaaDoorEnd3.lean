/- Chapter 9: the law AuctionEnds. -/
import Derived.Test.YtnhilofmafjdpaaDoorEnd2
namespace Go.Proofs.YtnhilofmafjdpaaDoor
open Go Go.Eng
noncomputable def fF : Option V := some (.bool false)
noncomputable def en3 (LV LE : Int → Int → Int → Int → Int) (cl cd cr cs : Int) : Option V := bif decide (0 ≤ cs) then bif decide (cr = cr) then bif decide (LE cl cd cr cs = 0) then some (.bool (decide (LV cl cd cr cs = (wr .u8 (cs + 1)).tmod 4))) else fF else fF else none
noncomputable def en2 (LV LE : Int → Int → Int → Int → Int) (C2 : Int → Int → Int → Int → List Int → Int → Bool) (C3 : Int → Int → Int → List Int → Int → Bool) (D li v : Int) (X : List Int) (cl cd cr cs : Int) : Option V :=
  bif !decide (cl = lvZ v) then fF else bif !decide (cd = dnZ v) then fF else bif !decide ((wr .i64 cs).tmod 2 = ((wr .i64 (wr .i64 D + li)).tmod 4).tmod 2) then fF else
  cond (codesB [(e2Lp, e2Lp)]) (bif decide ((0 : Int) = 0) && C2 D (dnZ v) ((wr .i64 (wr .i64 D + li)).tmod 4) (Int.ofNat X.length) X cs then
    cond (codesB [(e3Lp, e3Lp)]) (bif decide ((0 : Int) = 0) && C3 D ((wr .i64 (wr .i64 D + li)).tmod 4) (wr .i64 (li + 1)) X cr then en3 LV LE cl cd cr cs else none) none else none) none
noncomputable def en1 (K : NK) (LV LE : Int → Int → Int → Int → Int) (C2 : Int → Int → Int → Int → List Int → Int → Bool) (C3 : Int → Int → Int → List Int → Int → Bool) (D : Int) (X : List Int) : Option V :=
  bif K.N.K D X then bif K.N.K D X then bif !K.N.OB D X then fF else bif !decide (wr .i64 (K.N.OE D X + K.N.CE D X) = 0) then fF else bif decide (319 < Int.ofNat X.length) then fF else bif K.N.KS X then bif !K.N.LB X then
    (bif decide (K.N.CL D X = 0) && (decide (K.N.CD D X = 0) && (decide (K.N.CR D X = 0) && (decide (K.N.CS D X = 0) && true))) then some (.bool (decide (Int.ofNat X.length = 4))) else fF)
    else (bif decide (0 ≤ K.N.LI X ∧ K.N.LI X < Int.ofNat X.length) then (match X[(K.N.LI X).toNat]? with | some v => en2 LV LE C2 C3 D (K.N.LI X) v X (K.N.CL D X) (K.N.CD D X) (K.N.CR D X) (K.N.CS D X) | none => none) else none) else none else none else none
noncomputable def enE (K : NK) (LV LE : Int → Int → Int → Int → Int) (C1 : Int → Int → List Int → Bool) (C2 : Int → Int → Int → Int → List Int → Int → Bool) (C3 : Int → Int → Int → List Int → Int → Bool) (d D : Int) (xs X : List Int) : Option V :=
  bif pB (textsL = textsL) then bif K.MK d xs then cond (codesB [(e1Lp, e1Lp)]) (bif decide ((0 : Int) = 0) && C1 D (Int.ofNat X.length) X then en1 K LV LE C2 C3 D X else none) none else none else none
theorem ends_eval (K : NK) (S : List Int → Bool) (LV LE : Int → Int → Int → Int → Int) (C1 : Int → Int → List Int → Bool) (C2 : Int → Int → Int → Int → List Int → Int → Bool) (C3 : Int → Int → Int → List Int → Int → Bool) (nn : Bool) (d : Int) (xs : List Int) :
    evalFn Tryd.prog (orcS K S (tabEn LV LE) plainL) (enL C1 C2 C3 nn) 100 8 Tryd.f8 [.int .u8 d, .gs 1] (gH ++ [.rs nn 1 (.ints .u8 xs)]) (fun v _ => some v) = enE K LV LE C1 C2 C3 d (d.tmod 4) xs (K.MD d xs true) := by cases nn <;> kernel_rfl
end Go.Proofs.YtnhilofmafjdpaaDoor
