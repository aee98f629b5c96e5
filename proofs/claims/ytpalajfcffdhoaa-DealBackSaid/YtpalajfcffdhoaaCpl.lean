/- Texts merged: Cpl, Ind. -/
import Derived.Test.YtpalajfcffdhoaaDel
/- Chapter 6: Left, Right, Ways, Owner, Complete, Index: their formulas. -/
namespace Go.Proofs.Ytpalajfcffdhoaa
open Go Go.Eng Go.Deal
def anI (a b : Int) : Int := bitsI .andNot .u64 a b
def unI (a b c d : Int) : Int := orI (orI (orI a b) c) d
def lfF (a b c d : Int) : Int := anI 4503599627370495 (unI a b c d)
section
variable (D : D6)
theorem left_eval (a b c d : Int) : evE D 13 Try.f13 [q4 a b c d] = bif D.u4 a b c d then bif !D.pb a b c d then some (.tuple [.int .u64 0, .int .i64 60]) else some (.tuple [.int .u64 (lfF a b c d), .int .i64 0]) else none := by kernel_rfl
theorem right_eval (a b c d : Int) : evE D 23 Try.f23 [q4 a b c d] = bif D.u4 a b c d then bif D.pb a b c d then some (.bool (decide (unI a b c d = 4503599627370495))) else some (.bool false) else none := by kernel_rfl
theorem ways_eval (a b c d : Int) : evE D 11 Try.f11 [q4 a b c d] = bif D.u4 a b c d then bif !D.pb a b c d then some (.tuple [.agg [.int .u32 0, .int .u32 0, .int .u32 0, .int .u32 0], .int .i64 60]) else
    bif D.u4 a b c d && D.pb a b c d then some (.tuple [D.n.nW (D.o0 a b c d), .int .i64 0]) else none else none := by kernel_rfl
noncomputable def cpS (w : Int) (wi : Bool) (h l z : Int) (zi : Bool) (K : Int → Int → Int → Option V) : Option V :=
  bif zi && wi then bif D.n.u h then bif D.n.i (D.n.quo z w) && D.sbk l (nd1 D.n h) (D.n.q (D.n.quo z w)) then
    K (orI h (D.sb l (nd1 D.n h) (D.n.q (D.n.quo z w)))) (anI l (D.sb l (nd1 D.n h) (D.n.q (D.n.quo z w)))) (D.n.rem z w) else none else none else none
def zero4 : V := .agg [.int .u64 0, .int .u64 0, .int .u64 0, .int .u64 0]
theorem cpl_eval (a b c d e f g h : Int) : evE D 18 Try.f18 [q4 a b c d, .agg [.int .u32 e, .int .u32 f, .int .u32 g, .int .u32 h]] =
    bif D.u4 a b c d then bif !D.pb a b c d then some (.tuple [zero4, .int .i64 60]) else bif D.u4 a b c d && D.pb a b c d then bif D.n.inn e f g h && D.n.i (D.o0 a b c d) then
      bif decide (0 ≤ D.n.cmp (D.n.z e f g h) (D.n.q (D.o0 a b c d))) then some (.tuple [zero4, .int .i64 6]) else
      cpS D (D.n.q (D.o1 a b c d)) (D.n.i (D.o1 a b c d)) a (lfF a b c d) (D.n.z e f g h) (D.n.inn e f g h) fun a' l1 m1 =>
      cpS D (D.n.q (D.o2 a b c d)) (D.n.i (D.o2 a b c d)) b l1 (D.n.q m1) (D.n.i m1) fun b' l2 m2 =>
      cpS D (D.n.z 1 0 0 0) (D.n.inn 1 0 0 0) c l2 (D.n.q m2) (D.n.i m2) fun c' l3 m3 =>
      cpS D (D.n.z 1 0 0 0) (D.n.inn 1 0 0 0) d l3 (D.n.q m3) (D.n.i m3) fun d' _ _ => some (.tuple [q4 a' b' c' d', .int .i64 0])
    else none else none else none := by kernel_rfl
end
end Go.Proofs.Ytpalajfcffdhoaa

/- Chapter 6: Index, Owner: their formulas. -/
namespace Go.Proofs.Ytpalajfcffdhoaa
open Go Go.Eng Go.Deal
section
variable (D : D6)
noncomputable def ixS (w : Int) (wi : Bool) (h p l s : Int) (si : Bool) (K : Int → Int → Option V) : Option V :=
  bif D.odk l (anI h p) then bif D.n.i (D.od l (anI h p)) && wi then bif si && D.n.i (D.n.mul (D.n.q (D.od l (anI h p))) w) then
    K (anI l (anI h p)) (D.n.add s (D.n.q (D.n.mul (D.n.q (D.od l (anI h p))) w))) else none else none else none
def zeroN : V := .agg [.int .u32 0, .int .u32 0, .int .u32 0, .int .u32 0]
theorem idx_eval (a b c d x y z w : Int) : evE D 20 Try.f20 [q4 a b c d, q4 x y z w] =
    bif D.u4 a b c d then bif !D.pb a b c d then some (.tuple [zeroN, .int .i64 60]) else bif D.u4 x y z w then bif D.pb x y z w then bif !decide (unI x y z w = 4503599627370495) then some (.tuple [zeroN, .int .i64 60]) else
      bif !decide (anI a x = 0) then some (.tuple [zeroN, .int .i64 6]) else bif !decide (anI b y = 0) then some (.tuple [zeroN, .int .i64 6]) else bif !decide (anI c z = 0) then some (.tuple [zeroN, .int .i64 6]) else bif !decide (anI d w = 0) then some (.tuple [zeroN, .int .i64 6]) else
      bif D.u4 a b c d && D.pb a b c d then
      ixS D (D.n.q (D.o1 a b c d)) (D.n.i (D.o1 a b c d)) x a (lfF a b c d) (D.n.z 0 0 0 0) (D.n.inn 0 0 0 0) fun l1 s1 =>
      ixS D (D.n.q (D.o2 a b c d)) (D.n.i (D.o2 a b c d)) y b l1 (D.n.q s1) (D.n.i s1) fun l2 s2 =>
      ixS D (D.n.z 1 0 0 0) (D.n.inn 1 0 0 0) z c l2 (D.n.q s2) (D.n.i s2) fun l3 s3 =>
      ixS D (D.n.z 1 0 0 0) (D.n.inn 1 0 0 0) w d l3 (D.n.q s3) (D.n.i s3) fun _ s4 => some (.tuple [D.n.nW s4, .int .i64 0])
      else none
    else some (.tuple [zeroN, .int .i64 60]) else none else none := by kernel_rfl
end
end Go.Proofs.Ytpalajfcffdhoaa
