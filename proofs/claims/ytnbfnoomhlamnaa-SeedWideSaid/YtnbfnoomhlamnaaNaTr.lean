/- Chapter 2, the reference: trim. -/
import Derived.Test.YtnbfnoomhlamnaaNaNat2
import Derived.Test.YtnbfnoomhlamnaaNaDg
import Derived.Test.YtnbfnoomhlamnaaEng4
namespace Go.Proofs.Ytnbfnoomhlamnaa.N2
open Go Go.Eng
noncomputable def trLp : Code := loopOf 1 Try.f117
def trG (nn : Bool) : Tm := ⟨mkS [(0, .gs 0)] 0 21, [.rs nn 1 (.ints .i64)], []⟩
def trV (nn : Bool) : Tm := ⟨mkS [(0, .view 0 1)] 0 21, [.rs nn 1 (.ints .i64)], []⟩
def lastI (n : Nat) : Int := wr .i64 (Int.ofNat n - 1)
theorem tr_round0 (nn : Bool) (rd : Option Nat) (xs : List Int) : roundG Try.prog (orcP tabA plainL) noLoops 200 1 rd 117 trLp (trG nn) (trV nn) (trG nn) [.l xs] =
    bif decide (0 < Int.ofNat xs.length) then bif decide (0 ≤ lastI xs.length ∧ lastI xs.length < Int.ofNat xs.length) then oK xs[(lastI xs.length).toNat]? (fun v => bif decide (v = 0) then
      bif decide ((0 : Int) ≤ 0 ∧ 0 ≤ lastI xs.length ∧ lastI xs.length ≤ Int.ofNat xs.length) then some (.normal, [.n 0, .n ((lastI xs.length).toNat - 0), .l xs], []) else none else some (.exit 0, [.l xs], [])) else none else some (.exit 0, [.l xs], []) := by cases nn <;> kernel_rfl
theorem tr_round (nn : Bool) (rd : Option Nat) (m : Nat) (xs : List Int) : roundT Try.prog (orcP tabA plainL) noLoops 200 1 rd 117 trLp (trV nn) (trV nn) [.n 0, .n m, .l xs] =
    bif decide (0 < Int.ofNat m) then bif decide (0 ≤ lastI m ∧ lastI m < Int.ofNat m ∧ 0 + m ≤ xs.length) then oK xs[(lastI m).toNat]? (fun v => bif decide (v = 0) then bif decide (0 + m ≤ xs.length) then
      bif decide ((0 : Int) ≤ 0 ∧ 0 ≤ lastI m ∧ lastI m ≤ Int.ofNat m) then some (.normal, [.n 0, .n ((lastI m).toNat - 0), .l xs], []) else none else none else some (.exit 0, [.n 0, .n m, .l xs], [])) else none else some (.exit 0, [.n 0, .n m, .l xs], []) := by cases nn <;> kernel_rfl
end Go.Proofs.Ytnbfnoomhlamnaa.N2
