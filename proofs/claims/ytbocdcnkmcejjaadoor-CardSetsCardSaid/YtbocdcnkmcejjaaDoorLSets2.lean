/- Chapter 4: the law CardSets: 'sets' is true. -/
import Derived.Test.YtbocdcnkmcejjaaDoorLSets1
namespace Go.Proofs.YtbocdcnkmcejjaaDoor
open Go Go.Eng
noncomputable def stSuit (N : NS) (m k : Int) (K : Option V) : Option V := bif N.u m && N.u k then bif N.u m && N.u k then bif pB (bruijnL = bruijnL) && (N.u m && N.u k) then bif N.u m && N.u k then bif !decide (N.tV m k = N.tV m k) then some (.bool false) else
  bif !(bif N.tB m k then N.tB m k else !N.tB m k) then some (.bool false) else bif !decide (N.oV m k = N.oV m k) then some (.bool false) else bif !(bif N.tB m k then N.tB m k else !N.tB m k) then some (.bool false) else K else none else none else none else none
def stV (xs : List Int) : List Int := List.take ((Int.ofNat xs.length).toNat - 0) (List.drop 0 (xs ++ [77]))
noncomputable def stEnd (N : NS) (m : Int) (s : ByteArray) : Option V := bif N.u m then bif N.u m then bif N.pC s then bif N.pC s then bif !strEq (N.wV m) (N.wV m) then some (.bool false) else bif !decide (N.wE m = N.wE m) then some (.bool false) else
  bif !decide (N.pV s = N.pV s) then some (.bool false) else bif !decide (N.pE s = N.pE s) then some (.bool false) else stSuit N m 0 (stSuit N m 1 (stSuit N m 2 (stSuit N m 3 (stSuit N m 4 (some (.bool true)))))) else none else none else none else none
theorem sets_eval (nn : Bool) (N : NS) (m : Int) (xs : List Int) (s : ByteArray) : evalFn Tryd.prog (orcS7 N) (stL nn) 100 24 Tryd.f24 [.int .u64 m, .gs 1, .str s] (gH ++ [.rs nn 1 (.ints .u8 xs)]) (fun v _ => some v) =
    bif decide (xs.length * 2 ≤ 70368744177664) then bif decide ((xs ++ [77]).length * 2 ≤ 70368744177664) then bif N.u m then cond (codesB [(stLp, stLp)]) (bif stC (Int.ofNat (N.lV m).length) 0 (N.lV m) then bif N.u m then bif N.u m then
      bif decide ((0 : Int) ≤ 0 ∧ (0 : Int) ≤ Int.ofNat xs.length ∧ Int.ofNat xs.length ≤ Int.ofNat (xs ++ [77]).length) then bif decide (0 + ((Int.ofNat xs.length).toNat - 0) ≤ (xs ++ [77]).length) then bif N.mC (stV xs) then bif N.mC xs then
      bif !strEq (bytesOf (N.lV m)) (bytesOf (N.lV m)) then some (.bool false) else bif !decide (N.lE m = N.lE m) then some (.bool false) else bif !decide (N.mV (stV xs) = N.mV xs) then some (.bool false) else bif !decide (N.mE (stV xs) = N.mE xs) then some (.bool false) else
      bif decide (xs.length * 2 ≤ 70368744177664) then bif decide ((xs ++ [77]).length * 2 ≤ 70368744177664) then bif !strEq (bytesOf (xs ++ [77])) (bytesOf (xs ++ [77])) then some (.bool false) else stEnd N m s
      else none else none else none else none else none else none else none else none else none) none else none else none else none := by cases nn <;> kernel_rfl
end Go.Proofs.YtbocdcnkmcejjaaDoor
