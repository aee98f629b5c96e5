/- Chapter 2, the reference: of, value, add, less: one round each. -/
import Derived.Test.YtnbfnoomhlamnaaNaTr2
import Derived.Test.YtnbfnoomhlamnaaNaNat3
namespace Go.Proofs.Ytnbfnoomhlamnaa.N2
open Go Go.Eng
def nI (l : List Int) : Int := Int.ofNat l.length
def fitL (l : List Int) : Bool := decide (l.length * 9 ≤ 70368744177664)
def atI (l : List Int) (i : Int) (K : Int → RT) : RT := bif decide (0 ≤ i ∧ i < nI l) then oK l[i.toNat]? K else none
theorem of_round (rd : Option Nat) (c : Int) (zs : List Int) : roundT Try.prog (orcP tabA plainL) noLoops 200 0 rd 87 ofLp ofT ofX [.i c, .l zs] =
    bif decide (0 < c) then bif fitL (zs ++ [c.tmod 10]) then some (.normal, [.i (wr .i64 (c.tdiv 10)), .l (zs ++ [c.tmod 10])], []) else none else some (.exit 0, [.l zs], []) := by kernel_rfl
theorem vl_round (n1 : Bool) (rd : Option Nat) (c i : Int) (xs : List Int) : roundT Try.prog (orcP tabA plainL) noLoops 200 1 rd 119 vlLp (vlT n1) (vlX n1) [.i c, .i i, .l xs] =
    bif decide (0 ≤ i) then atI xs i (fun v => some (.normal, [.i (wr .i64 (wr .i64 (10 * c) + v)), .i (wr .i64 (i - 1)), .l xs], [])) else some (.exit 0, [.i c, .l xs], []) := by cases n1 <;> kernel_rfl
theorem ls_round (n1 n2 : Bool) (rd : Option Nat) (r : Bool) (i : Int) (xs ys : List Int) : roundT Try.prog (orcP tabA plainL) noLoops 200 2 rd 85 lsLp (lsT n1 n2) (lsX n1 n2) [.b r, .i i, .l xs, .l ys] =
    bif decide (0 ≤ i) then atI xs i (fun v => atI ys i (fun u => bif !decide (v = u) then atI xs i (fun v2 => atI ys i (fun u2 => some (.ret, [.b (decide (v2 < u2)), .l xs, .l ys], []))) else
      some (.normal, [.b r, .i (wr .i64 (i - 1)), .l xs, .l ys], []))) else some (.exit 0, [.b r, .l xs, .l ys], []) := by cases n1 <;> cases n2 <;> kernel_rfl
def adK (i : Int) (xs ys zs : List Int) (c : Int) : RT := bif fitL (zs ++ [c.tmod 10]) then some (.normal, [.i (wr .i64 (c.tdiv 10)), .i (wr .i64 (i + 1)), .l xs, .l ys, .l (zs ++ [c.tmod 10])], []) else none
def adB (i : Int) (xs ys zs : List Int) (c : Int) : RT := bif decide (i < nI ys) then atI ys i (fun v => adK i xs ys zs (wr .i64 (c + v))) else adK i xs ys zs c
def adA (i : Int) (xs ys zs : List Int) (c : Int) : RT := bif decide (i < nI xs) then atI xs i (fun v => adB i xs ys zs (wr .i64 (c + v))) else adB i xs ys zs c
theorem ad_round (n1 n2 : Bool) (rd : Option Nat) (c i : Int) (xs ys zs : List Int) : roundT Try.prog (orcP tabA plainL) noLoops 200 2 rd 90 adLp (adT n1 n2) (adX n1 n2) [.i c, .i i, .l xs, .l ys, .l zs] =
    bif decide (i < nI xs) then adA i xs ys zs c else bif decide (i < nI ys) then adA i xs ys zs c else bif decide (0 < c) then adA i xs ys zs c else some (.exit 0, [.l xs, .l ys, .l zs], []) := by cases n1 <;> cases n2 <;> kernel_rfl
def sbK (i : Int) (xs ys zs : List Int) (x : Int) : RT := bif decide (x < 0) then bif fitL (zs ++ [wr .i64 (x + 10)]) then some (.normal, [.i 1, .i (wr .i64 (i + 1)), .l xs, .l ys, .l (zs ++ [wr .i64 (x + 10)])], []) else none else
  bif fitL (zs ++ [x]) then some (.normal, [.i 0, .i (wr .i64 (i + 1)), .l xs, .l ys, .l (zs ++ [x])], []) else none
theorem sb_round (n1 n2 : Bool) (rd : Option Nat) (c i : Int) (xs ys zs : List Int) : roundT Try.prog (orcP tabA plainL) noLoops 200 2 rd 120 sbLp (sbT n1 n2) (sbX n1 n2) [.i c, .i i, .l xs, .l ys, .l zs] =
    bif decide (i < nI xs) then atI xs i (fun v => bif decide (i < nI ys) then atI ys i (fun u => sbK i xs ys zs (wr .i64 (wr .i64 (v - c) - u))) else sbK i xs ys zs (wr .i64 (v - c))) else some (.exit 0, [.l xs, .l ys, .l zs], []) := by cases n1 <;> cases n2 <;> kernel_rfl
def mlK (c i : Int) (xs ys zs : List Int) (v x y : Int) : RT := bif decide (0 ≤ wr .i64 (c + i) ∧ wr .i64 (c + i) < nI zs) then bif decide ((wr .i64 (c + i)).toNat < zs.length) then
  some (.normal, [.i c, .i (wr .i64 (i + 1)), .l xs, .l ys, .l (zs.set (wr .i64 (c + i)).toNat (wr .i64 (v + wr .i64 (x * y))))], []) else none else none
theorem ml_round2 (n1 n2 : Bool) (rd : Option Nat) (c i : Int) (xs ys zs : List Int) : roundT Try.prog (orcP tabA plainL) noLoops 200 2 rd 88 mlLp2 (mlT2 n1 n2) (mlT1 n1 n2) [.i c, .i i, .l xs, .l ys, .l zs] =
    bif decide (i < nI ys) then atI zs (wr .i64 (c + i)) (fun v => atI xs c (fun x => atI ys i (fun y => mlK c i xs ys zs v x y))) else some (.exit 2, [.i c, .l xs, .l ys, .l zs], []) := by cases n1 <;> cases n2 <;> kernel_rfl
theorem ml_round3 (n1 n2 : Bool) (rd : Option Nat) (c i : Int) (xs ys zs : List Int) : roundT Try.prog (orcP tabA plainL) noLoops 200 2 rd 88 mlLp3 (mlT3 n1 n2) (mlX1 n1 n2) [.i c, .i i, .l xs, .l ys, .l zs] =
    bif decide (i < nI zs) then atI zs i (fun v => bif decide (0 ≤ i ∧ i < nI zs) then bif decide (i.toNat < zs.length) then
      some (.normal, [.i (wr .i64 ((wr .i64 (c + v)).tdiv 10)), .i (wr .i64 (i + 1)), .l xs, .l ys, .l (zs.set i.toNat ((wr .i64 (c + v)).tmod 10))], []) else none else none) else some (.exit 4, [.l xs, .l ys, .l zs], []) := by cases n1 <;> cases n2 <;> kernel_rfl
end Go.Proofs.Ytnbfnoomhlamnaa.N2
