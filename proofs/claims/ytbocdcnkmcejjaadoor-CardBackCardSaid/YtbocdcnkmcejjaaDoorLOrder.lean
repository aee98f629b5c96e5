/- Chapter 4: the law CardOrder. -/
import Derived.Test.YtbocdcnkmcejjaaDoorCo3
namespace Go.Proofs.YtbocdcnkmcejjaaDoor
open Go Go.Eng
def mI (m : Int) : Int := m.tmod 4503599627370496
theorem co_all (m : Int) : evalFn Tryd.prog (orcW tabD plainL) coL 100 6 Tryd.f6 [.int .u64 m] gH (fun v _ => some v) =
    bif decide (0 ≤ mI m ∧ mI m < 4503599627370496) then bif decide (0 ≤ mI m ∧ mI m < 4503599627370496) then
      bif !decide (Int.ofNat (desc (mI m).toNat 52).length = ((desc (mI m).toNat 52).length : Nat)) then some (.bool false) else
        cond (codesB [(coLp1, coLp1)]) (bif pB (0 ≤ mI m ∧ mI m ≤ 4503599627370495 ∧ (0 : Int) = 0 ∧ desc (mI m).toNat 52 = desc (mI m).toNat 52 ∧ Int.ofNat (desc (mI m).toNat 52).length = Int.ofNat (desc (mI m).toNat 52).length) then
          cond (codesB [(coLp2, coLp2)]) (bif pB (0 ≤ mI m ∧ mI m ≤ 4503599627370495 ∧ (0 : Int) = 0 ∧ desc (mI m).toNat 52 = desc (mI m).toNat 52 ∧ bruijnL = bruijnL) then
            some (.bool true) else none) none
        else none) none
    else none else none := by kernel_rfl
theorem co_true {m : Int} (hm : 0 ≤ m) : evalFn Tryd.prog (orcW tabD plainL) coL 100 6 Tryd.f6 [.int .u64 m] gH (fun v _ => some v) = some (.bool true) := by
  have e1 : mI m = m % 4503599627370496 := Int.tmod_eq_emod_of_nonneg hm
  rw [co_all, codesC, codesC, pB_iff.2 ⟨by omega, by omega, rfl, rfl, rfl⟩, pB_iff.2 ⟨by omega, by omega, rfl, rfl, rfl⟩, decide_eq_true (show 0 ≤ mI m ∧ mI m < 4503599627370496 by omega), decide_eq_true (show Int.ofNat (desc (mI m).toNat 52).length = ((desc (mI m).toNat 52).length : Nat) from rfl)]
  rfl
end Go.Proofs.YtbocdcnkmcejjaaDoor
