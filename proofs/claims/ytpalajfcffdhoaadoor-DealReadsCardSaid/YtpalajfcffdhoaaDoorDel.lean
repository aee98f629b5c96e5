/- Texts merged: Del, Cpl, Ind. -/
import Derived.Test.YtpalajfcffdhoaaDoorPar
/- Chapter 6: the package's own functions, over names. -/
namespace Go.Proofs.YtpalajfcffdhoaaDoor
open Go Go.Eng Go.Deal
structure D6 where
  n : N6
  pb : Int → Int → Int → Int → Bool
  o0 : Int → Int → Int → Int → Int
  o1 : Int → Int → Int → Int → Int
  o2 : Int → Int → Int → Int → Int
  sb : Int → Int → Int → Int
  sbk : Int → Int → Int → Bool
  od : Int → Int → Int
  odk : Int → Int → Bool
def D6.u4 (D : D6) (a b c d : Int) : Bool := D.n.u a && D.n.u b && D.n.u c && D.n.u d
def gPar (D : D6) : List V → Option (Bool × V)
  | [.agg [.int .u64 a, .int .u64 b, .int .u64 c, .int .u64 d]] => some (D.u4 a b c d, .bool (D.pb a b c d))
  | _ => none
def gOth (D : D6) : List V → Option (Bool × V)
  | [.agg [.int .u64 a, .int .u64 b, .int .u64 c, .int .u64 d]] => some (D.u4 a b c d && D.pb a b c d,
    .agg [.int .u32 (D.n.w0 (D.o0 a b c d)), .int .u32 (D.n.w1 (D.o0 a b c d)), .int .u32 (D.n.w2 (D.o0 a b c d)), .int .u32 (D.n.w3 (D.o0 a b c d)), .int .u32 (D.n.w0 (D.o1 a b c d)), .int .u32 (D.n.w1 (D.o1 a b c d)), .int .u32 (D.n.w2 (D.o1 a b c d)), .int .u32 (D.n.w3 (D.o1 a b c d)),
      .int .u32 (D.n.w0 (D.o2 a b c d)), .int .u32 (D.n.w1 (D.o2 a b c d)), .int .u32 (D.n.w2 (D.o2 a b c d)), .int .u32 (D.n.w3 (D.o2 a b c d)), .int .u32 1, .int .u32 0, .int .u32 0, .int .u32 0, .int .u32 1, .int .u32 0, .int .u32 0, .int .u32 0])
  | _ => none
def gSub (D : D6) : List V → Option (Bool × V)
  | [.int .u64 m, .int .i64 k, .agg [.int .u32 a, .int .u32 b, .int .u32 c, .int .u32 d]] => some (D.n.inn a b c d && D.sbk m k (D.n.z a b c d), .int .u64 (D.sb m k (D.n.z a b c d)))
  | _ => none
def gOrd (D : D6) : List V → Option (Bool × V)
  | [.int .u64 m, .int .u64 g] => some (D.odk m g, D.n.nW (D.od m g))
  | _ => none
/-- How many cards a hand lacks. -/
def gLk (D : D6) : List V → Option (Bool × V)
  | [.int .u64 x] => some (D.n.u x, .int .i64 (nd1 D.n x))
  | _ => none
theorem lk_eval (N : N6) (x : Int) : evalFn Tryd.prog (orcN N (tabN N) plainL) noLoops 100 44 Tryd.f44 [.int .u64 x] [] (fun v _ => some v) = bif N.u x then some (.int .i64 (nd1 N x)) else none := by kernel_rfl
def tabE (D : D6) : PTab := addTab 44 (gLk D) (addTab 8 (gPar D) (addTab 38 (gOth D) (addTab 43 (gSub D) (tabN D.n))))
noncomputable abbrev orcE (D : D6) (LL : FuncId → Loops) : Oracle := orcN D.n (tabE D) LL
noncomputable def d6 : D6 := ⟨n6, parB, o0, o1, o2, g6, sbOk, fun _ _ => 0, fun _ _ => false⟩
theorem tabE_ok : PTabOk Tryd.prog (tabE d6) := by
  refine addTab_ok ?_ (addTab_ok ?_ (addTab_ok ?_ (addTab_ok ?_ tabN_ok)))
  · intro args c v h hc
    unfold gLk at h
    split at h
    · cases h
      refine fnPure_of_eval (N := 100) (orcN_ok tabN_ok plainL_ok) mixed Tryd.func44 (by kernel_rfl) noLoops_ok ?_ rfl rfl
      rw [lk_eval]
      exact congrArg (fun b => bif b then _ else none) hc
    · cases h
  · intro args c v h hc
    unfold gPar at h
    split at h
    · cases h; exact par_p hc
    · cases h
  · intro args c v h hc
    unfold gOth at h
    split at h
    · cases h; rw [Bool.and_eq_true] at hc; exact oth_p hc.1 hc.2
    · cases h
  · intro args c v h hc
    unfold gSub at h
    split at h
    · cases h; rw [Bool.and_eq_true] at hc; exact sub_p hc.1 hc.2
    · cases h
theorem orcE_ok {LL : FuncId → Loops} (hL : ∀ f, loopsOk Tryd.prog (LL f)) : OracleOk Tryd.prog (orcE d6 LL) := orcN_ok tabE_ok hL
noncomputable abbrev evE (D : D6) (f : FuncId) (fn : Func) (args : List V) : Option V := evalFn Tryd.prog (orcE D plainL) noLoops 100 f fn args [] (fun v _ => some v)
def q4 (a b c d : Int) : V := .agg [.int .u64 a, .int .u64 b, .int .u64 c, .int .u64 d]
end Go.Proofs.YtpalajfcffdhoaaDoor

/- Chapter 6: Left, Right, Ways, Owner, Complete, Index: their formulas. -/
namespace Go.Proofs.YtpalajfcffdhoaaDoor
open Go Go.Eng Go.Deal
def anI (a b : Int) : Int := bitsI .andNot .u64 a b
def unI (a b c d : Int) : Int := orI (orI (orI a b) c) d
def lfF (a b c d : Int) : Int := anI 4503599627370495 (unI a b c d)
section
variable (D : D6)
theorem left_eval (a b c d : Int) : evE D 39 Tryd.f39 [q4 a b c d] = bif D.u4 a b c d then bif !D.pb a b c d then some (.tuple [.int .u64 0, .int .i64 60]) else some (.tuple [.int .u64 (lfF a b c d), .int .i64 0]) else none := by kernel_rfl
theorem ways_eval (a b c d : Int) : evE D 18 Tryd.f18 [q4 a b c d] = bif D.u4 a b c d then bif !D.pb a b c d then some (.tuple [.agg [.int .u32 0, .int .u32 0, .int .u32 0, .int .u32 0], .int .i64 60]) else
    bif D.u4 a b c d && D.pb a b c d then some (.tuple [D.n.nW (D.o0 a b c d), .int .i64 0]) else none else none := by kernel_rfl
noncomputable def cpS (w : Int) (wi : Bool) (h l z : Int) (zi : Bool) (K : Int → Int → Int → Option V) : Option V :=
  bif zi && wi then bif D.n.u h then bif D.n.i (D.n.quo z w) && D.sbk l (nd1 D.n h) (D.n.q (D.n.quo z w)) then
    K (orI h (D.sb l (nd1 D.n h) (D.n.q (D.n.quo z w)))) (anI l (D.sb l (nd1 D.n h) (D.n.q (D.n.quo z w)))) (D.n.rem z w) else none else none else none
def zero4 : V := .agg [.int .u64 0, .int .u64 0, .int .u64 0, .int .u64 0]
theorem cpl_eval (a b c d e f g h : Int) : evE D 19 Tryd.f19 [q4 a b c d, .agg [.int .u32 e, .int .u32 f, .int .u32 g, .int .u32 h]] =
    bif D.u4 a b c d then bif !D.pb a b c d then some (.tuple [zero4, .int .i64 60]) else bif D.u4 a b c d && D.pb a b c d then bif D.n.inn e f g h && D.n.i (D.o0 a b c d) then
      bif decide (0 ≤ D.n.cmp (D.n.z e f g h) (D.n.q (D.o0 a b c d))) then some (.tuple [zero4, .int .i64 6]) else
      cpS D (D.n.q (D.o1 a b c d)) (D.n.i (D.o1 a b c d)) a (lfF a b c d) (D.n.z e f g h) (D.n.inn e f g h) fun a' l1 m1 =>
      cpS D (D.n.q (D.o2 a b c d)) (D.n.i (D.o2 a b c d)) b l1 (D.n.q m1) (D.n.i m1) fun b' l2 m2 =>
      cpS D (D.n.z 1 0 0 0) (D.n.inn 1 0 0 0) c l2 (D.n.q m2) (D.n.i m2) fun c' l3 m3 =>
      cpS D (D.n.z 1 0 0 0) (D.n.inn 1 0 0 0) d l3 (D.n.q m3) (D.n.i m3) fun d' _ _ => some (.tuple [q4 a' b' c' d', .int .i64 0])
    else none else none else none := by kernel_rfl
end
end Go.Proofs.YtpalajfcffdhoaaDoor

/- Chapter 6: Index, Owner: their formulas. -/
namespace Go.Proofs.YtpalajfcffdhoaaDoor
open Go Go.Eng Go.Deal
section
variable (D : D6)
noncomputable def ixS (w : Int) (wi : Bool) (h p l s : Int) (si : Bool) (K : Int → Int → Option V) : Option V :=
  bif D.odk l (anI h p) then bif D.n.i (D.od l (anI h p)) && wi then bif si && D.n.i (D.n.mul (D.n.q (D.od l (anI h p))) w) then
    K (anI l (anI h p)) (D.n.add s (D.n.q (D.n.mul (D.n.q (D.od l (anI h p))) w))) else none else none else none
def zeroN : V := .agg [.int .u32 0, .int .u32 0, .int .u32 0, .int .u32 0]
end
end Go.Proofs.YtpalajfcffdhoaaDoor
