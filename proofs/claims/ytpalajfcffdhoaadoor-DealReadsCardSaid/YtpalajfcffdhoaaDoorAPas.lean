/- Chapter 2: Pascal's triangle, plainly. -/
import Derived.Test.YtpalajfcffdhoaaDoorACh2
namespace Go.Proofs.YtpalajfcffdhoaaDoor.N2
open Go Go.Eng
theorem ch_zero (n : Nat) : ch n 0 = 1 := by cases n <;> rfl
theorem ch_self : ∀ n : Nat, ch n n = 1
  | 0 => rfl
  | n + 1 => by rw [ch, ch_self n, ch_big (by omega)]
theorem ch_symm : ∀ {n k : Nat}, k ≤ n → ch n (n - k) = ch n k
  | 0, 0, _ => rfl
  | n + 1, 0, _ => by rw [Nat.sub_zero, ch_self, ch_zero]
  | n + 1, k + 1, h => by
    rw [Nat.add_sub_add_right]
    rcases Nat.lt_or_ge k n with hlt | hge
    · obtain ⟨j, hj⟩ : ∃ j, n - k = j + 1 := ⟨n - k - 1, by omega⟩
      have h1 := ch_symm (n := n) (k := k) (by omega)
      have h2 := ch_symm (n := n) (k := k + 1) (by omega)
      rw [hj] at h1
      rw [show n - (k + 1) = j by omega] at h2
      rw [hj, ch, ch, h1, h2]; omega
    · obtain rfl : k = n := by omega
      rw [Nat.sub_self, ch_zero, ch_self]
/-- What stands in a row before an index, added up. -/
def cs (n : Nat) : Nat → Nat
  | 0 => 0
  | k + 1 => cs n k + ch n k
theorem cs_step (n : Nat) : ∀ k : Nat, cs (n + 1) (k + 1) = cs n (k + 1) + cs n k
  | 0 => by simp [cs, ch_zero]
  | k + 1 => by
    have h := cs_step n k
    rw [cs, h, ch]
    simp only [cs]; omega
theorem cs_all : ∀ n : Nat, cs n (n + 1) = 2 ^ n
  | 0 => rfl
  | n + 1 => by
    rw [cs_step, cs, ch_big (by omega), cs_all n, Nat.pow_succ]; omega
theorem cs_mono {n i j : Nat} (h : i ≤ j) : cs n i ≤ cs n j := by
  induction j with
  | zero => obtain rfl : i = 0 := by omega
            exact Nat.le_refl _
  | succ j ih =>
    rcases Nat.lt_or_ge i (j + 1) with hlt | hge
    · have := ih (by omega)
      simp only [cs]; omega
    · obtain rfl : i = j + 1 := by omega
      exact Nat.le_refl _
theorem cs_le (n k : Nat) : cs n k ≤ 2 ^ n := by
  rcases Nat.lt_or_ge (n + 1) k with h | h
  · have : ∀ j, cs n (n + 1 + j) = 2 ^ n := fun j => by
      induction j with
      | zero => exact cs_all n
      | succ j ih => rw [show n + 1 + (j + 1) = (n + 1 + j) + 1 by omega, cs, ih, ch_big (by omega)]; omega
    have h2 := this (k - (n + 1))
    rw [show n + 1 + (k - (n + 1)) = k by omega] at h2
    omega
  · rw [← cs_all n]; exact cs_mono h
theorem ch_lt {n k : Nat} (h : 0 < n) : ch n k < 2 ^ n := by
  have h2 : 2 ≤ 2 ^ n := by
    have := Nat.pow_le_pow_right (n := 2) (by decide) (show 1 ≤ n from h)
    simpa using this
  cases k with
  | zero => rw [ch_zero]; omega
  | succ k =>
    have h1 := cs_le n (k + 2)
    have h3 := cs_mono (n := n) (i := 1) (j := k + 1) (by omega)
    have h4 : cs n 1 = 1 := by simp [cs, ch_zero]
    simp only [cs] at h1 h3 h4
    omega
theorem ch_lt128 {n k : Nat} (h : n ≤ 128) : ch n k < 340282366920938463463374607431768211456 := by
  rcases Nat.eq_zero_or_pos n with rfl | hp
  · cases k with
    | zero => decide
    | succ k => rw [ch]; decide
  · have h1 := ch_lt (k := k) hp
    have h2 := Nat.pow_le_pow_right (n := 2) (by decide) h
    have h3 : (2 : Nat) ^ 128 = 340282366920938463463374607431768211456 := by decide
    omega
/-- The contract's answer, plainly. -/
theorem chZ_eq {n k : Int} (h : 0 ≤ n ∧ n ≤ 128) : chZ n k = if 0 ≤ k ∧ k ≤ n then ((ch n.toNat k.toNat : Nat) : Int) else 0 := by
  unfold chZ
  rw [decide_eq_false (show ¬ n < 0 by omega), decide_eq_false (show ¬ 128 < n by omega)]
  simp only [cond_false]
  by_cases h3 : k < 0
  · rw [decide_eq_true h3, if_neg (by omega)]; rfl
  by_cases h4 : n < k
  · rw [decide_eq_false h3, decide_eq_true h4, if_neg (by omega)]; rfl
  rw [decide_eq_false h3, decide_eq_false h4, if_pos (by omega)]
  simp only [cond_false]
  have hk : kI n k = (if n - k < k then n - k else k) := by
    unfold kI
    rw [wr64 (by omega) (by omega)]
    simp only [foldI, minI]
    by_cases hlt : n - k < k
    · rw [decide_eq_true hlt, if_pos hlt]; rfl
    · rw [decide_eq_false hlt, if_neg hlt]; rfl
  rw [hk]
  split
  · rw [show (n - k).toNat = n.toNat - k.toNat by omega, ch_symm (by omega)]
  · rfl
theorem chZ_range {n k : Int} (h : 0 ≤ n ∧ n ≤ 128) : 0 ≤ chZ n k ∧ chZ n k < 340282366920938463463374607431768211456 := by
  rw [chZ_eq h]
  have := ch_lt128 (n := n.toNat) (k := k.toNat) (by omega)
  split <;> omega
theorem chE_zero {n : Int} (h : 0 ≤ n ∧ n ≤ 128) : chE n = 0 := by
  unfold chE
  rw [decide_eq_false (by omega), decide_eq_false (by omega)]; rfl
end Go.Proofs.YtpalajfcffdhoaaDoor.N2
