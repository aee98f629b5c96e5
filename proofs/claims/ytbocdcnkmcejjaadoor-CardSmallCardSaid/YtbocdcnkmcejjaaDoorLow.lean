/- Chapter 4: count in a table; Low of a set and a suit. -/
import Derived.Test.YtbocdcnkmcejjaaDoorCount
namespace Go.Proofs.YtbocdcnkmcejjaaDoor
open Go Go.Eng
noncomputable def cnTree : List PV → Fin
  | [.i m, .i n] => .br (pB (0 ≤ m ∧ m < 4503599627370496 ∧ n = 0)) (.leaf (.exit 0) (cnT.at [.i 0, .i ((desc m.toNat 52).length : Nat)])) .no
  | _ => .no
noncomputable def cnSum : LoopSum := lsumF 0 cnT cnLp cnTree
theorem cnSum_ok : LoopOk Tryd.prog cnSum := by
  refine lsumF_ok (by kernel_rfl) (fun rd ps e1 s1 h => ?_)
  unfold cnTree at h
  split at h
  · rename_i m n
    simp only [Fin.pick] at h
    cases hc : pB (0 ≤ m ∧ m < 4503599627370496 ∧ n = 0) with
    | false => rw [hc] at h; cases h
    | true =>
      rw [hc, cond_true] at h
      rw [pB_iff] at hc
      obtain ⟨h0, h1, rfl⟩ := hc
      cases h
      have hd := desc_len m.toNat 52
      have := cn_loop rd (m.toNat, 0) ⟨by dsimp only; omega, by dsimp only; omega⟩
      dsimp only at this
      rw [show ((m.toNat : Nat) : Int) = m by omega, Nat.zero_add] at this
      exact this
  · cases h
noncomputable def cnL : Loops := sums (fun n => match n with | 2 => some cnSum | _ => none)
theorem cnL_ok : loopsOk Tryd.prog cnL := by
  intro n g hg
  simp only [cnL, sums] at hg
  split at hg
  · cases hg; exact cnSum_ok
  · cases hg
theorem cn_eval (m : Int) : evalFn Tryd.prog orcO cnL 100 22 Tryd.f22 [.int .u64 m] [] (fun v _ => some v) = cond (codesB [(cnLp, cnLp)]) (bif pB (0 ≤ m ∧ m < 4503599627370496 ∧ (0 : Int) = 0) then some (.int .i64 ((desc m.toNat 52).length : Nat)) else none) none := by kernel_rfl
def gCnt : List V → Option (Bool × V)
  | [.int .u64 m] => some (decide (0 ≤ m ∧ m < 4503599627370496), .int .i64 ((desc m.toNat 52).length : Nat))
  | _ => none
def tabD : PTab := addTab 22 gCnt tabO
theorem tabD_ok : PTabOk Tryd.prog tabD := by
  refine addTab_ok ?_ tabO_ok
  intro args c v h hc
  unfold gCnt at h
  split at h
  · cases h
    simp only [decide_eq_true_eq] at hc
    refine fnPure_of_eval (N := 100) orcO_ok mixed Tryd.func22 (by kernel_rfl) cnL_ok ?_ rfl rfl
    have hcd : codesB [(cnLp, cnLp)] = true := by rw [codesB_iff]; intro x hx; simp at hx; rw [hx]
    rw [cn_eval, hcd, pB_iff.2 ⟨hc.1, hc.2, rfl⟩]
    rfl
  · cases h
/-! ### the least card -/
theorem low_bit {x : Nat} (h : 0 < x) (hx : x < 18446744073709551616) : ∃ t, t < 64 ∧ x.testBit t = true ∧ (∀ i, i < t → x.testBit i = false) ∧ x &&& (18446744073709551616 - x) = 2 ^ t := by
  obtain ⟨t, k, rfl⟩ := odd_part x h
  have hp := Nat.two_pow_pos t
  have e : 2 ^ t * (2 * k + 1) - 1 = 2 ^ t * (2 * k) + (2 ^ t - 1) := by rw [Nat.mul_add, Nat.mul_one]; omega
  have b1 : ∀ i, (2 ^ t * (2 * k + 1)).testBit i = (decide (t ≤ i) && (2 * k + 1).testBit (i - t)) := fun i => by rw [Nat.testBit_two_pow_mul]
  have bt : (2 ^ t * (2 * k + 1)).testBit t = true := by rw [b1 t]; simp
  have ht : t < 64 := by
    by_cases h : t < 64
    · exact h
    · rw [Nat.testBit_lt_two_pow (Nat.lt_of_lt_of_le hx (Nat.le_trans (show 18446744073709551616 ≤ 2 ^ 64 by decide) (Nat.pow_le_pow_right (show 0 < 2 by decide) (show 64 ≤ t by omega))))] at bt
      cases bt
  refine ⟨t, ht, bt, fun i hi => by rw [b1 i, decide_eq_false (by omega)]; rfl, ?_⟩
  apply Nat.eq_of_testBit_eq
  intro i
  have hs : 18446744073709551616 - 2 ^ t * (2 * k + 1) = 2 ^ 64 - ((2 ^ t * (2 * k + 1) - 1) + 1) := by
    rw [Nat.sub_add_cancel h]
  rw [Nat.testBit_and, hs, Nat.testBit_two_pow_sub_succ (by omega), e, b1 i, Nat.testBit_two_pow_mul_add _ (by omega), Nat.testBit_two_pow]
  by_cases hi : i < t
  · rw [decide_eq_false (show ¬ t ≤ i by omega), decide_eq_false (show ¬ t = i by omega)]; rfl
  · rw [if_neg hi, decide_eq_true (show t ≤ i by omega)]
    by_cases hti : t = i
    · subst hti
      rw [decide_eq_true rfl, Nat.sub_self, decide_eq_true ht]
      simp
    · obtain ⟨j, hj⟩ : ∃ j, i - t = j + 1 := ⟨i - t - 1, by omega⟩
      rw [hj, decide_eq_false hti, Nat.testBit_succ, Nat.testBit_succ, show (2 * k + 1) / 2 = k by omega, show 2 * k / 2 = k by omega]
      cases k.testBit j <;> simp
theorem bruijn : allN 64 (fun t => match bruijnL[(2 ^ t * 285870213051353865) % 18446744073709551616 / 288230376151711744]? with | some v => eqI v (Int.ofNat t) | none => false) = true := by kernel_rfl
end Go.Proofs.YtbocdcnkmcejjaaDoor
