/- Chapter 3: the powers of the factor modulo the prime. -/
import Derived.Test.YtnbfnoomhlamnaaNext
namespace Go.Proofs.Ytnbfnoomhlamnaa
open Go Go.Eng

theorem mulP_nat {a b : Nat} (ha : a < 2147483647) (hb : b < 2147483647) : mulP a b = ((a * b % 2147483647 : Nat) : Int) := by
  have h : a * b ≤ 2147483646 * 2147483646 := Nat.mul_le_mul (by omega) (by omega)
  have e : (a : Int) * (b : Int) = ((a * b : Nat) : Int) := by simp
  unfold mulP
  rw [e, wr64 (by omega) (by omega), Int.tmod_eq_emod_of_nonneg (by omega)]
  omega
def J (s e : Nat) : Nat := s * 48271 ^ e % 2147483647
theorem pow_sq (p k : Nat) : (p * p) ^ k = p ^ (2 * k) := by rw [Nat.pow_mul, Nat.pow_two]
theorem sq_mod (a p k : Nat) : a * (p * p % 2147483647) ^ k % 2147483647 = a * p ^ (2 * k) % 2147483647 := by
  rw [Nat.mul_mod, ← Nat.pow_mod, ← Nat.mul_mod, pow_sq]
theorem jumpR_nat : ∀ (l p a : Nat), p < 2147483647 → a < 2147483647 → jumpR p l a = ((a * p ^ l % 2147483647 : Nat) : Int) := by
  intro l
  induction l using Nat.strongRecOn with
  | _ l ih =>
    intro p a hp ha
    rw [jumpR]
    rcases Nat.eq_zero_or_pos l with h0 | h0
    · subst h0
      rw [dif_neg (by omega), Nat.pow_zero, Nat.mul_one, Nat.mod_eq_of_lt ha]
    · rw [dif_pos (by omega), mulP_nat hp hp]
      have e2 : ((l : Int) / 2) = ((l / 2 : Nat) : Int) := by omega
      have hpp : p * p % 2147483647 < 2147483647 := Nat.mod_lt _ (by omega)
      rw [e2]
      cases ho : decide ((l : Int).tmod 2 = 1) with
      | true =>
        simp only [decide_eq_true_eq] at ho
        rw [Int.tmod_eq_emod_of_nonneg (by omega)] at ho
        rw [cond_true, mulP_nat ha hp, ih (l / 2) (by omega) _ _ hpp (Nat.mod_lt _ (by omega)), sq_mod]
        rw [Nat.mod_mul_mod]
        congr 2
        have e3 : l = 2 * (l / 2) + 1 := by omega
        rw [Nat.mul_assoc]
        conv => rhs; rw [e3, Nat.pow_succ, Nat.mul_comm (p ^ (2 * (l / 2))) p]
      | false =>
        simp only [decide_eq_false_iff_not] at ho
        rw [Int.tmod_eq_emod_of_nonneg (by omega)] at ho
        rw [cond_false, ih (l / 2) (by omega) _ _ hpp ha, sq_mod]
        have e3 : 2 * (l / 2) = l := by omega
        rw [e3]
def pm : Nat → Nat → Nat → Nat → Nat
  | 0, _, _, a => a
  | f + 1, p, l, a => pm f (p * p % 2147483647) (l / 2) (bif Nat.beq (l % 2) 1 then a * p % 2147483647 else a)
theorem pm_eq : ∀ (f p l a : Nat), l < 2 ^ f → pm f p l a % 2147483647 = a * p ^ l % 2147483647
  | 0, p, l, a, h => by
    have : l = 0 := by omega
    subst this
    simp [pm]
  | f + 1, p, l, a, h => by
    have h2 : l / 2 < 2 ^ f := by rw [Nat.pow_succ] at h; omega
    rw [pm, pm_eq f _ _ _ h2, sq_mod]
    cases ho : Nat.beq (l % 2) 1 with
    | true =>
      have ho := Nat.eq_of_beq_eq_true ho
      rw [cond_true, Nat.mod_mul_mod]
      congr 1
      have e3 : l = 2 * (l / 2) + 1 := by omega
      rw [Nat.mul_assoc]
      conv => rhs; rw [e3, Nat.pow_succ, Nat.mul_comm (p ^ (2 * (l / 2))) p]
    | false =>
      have ho : l % 2 ≠ 1 := fun e => by rw [e] at ho; cases ho
      rw [cond_false]
      have e3 : 2 * (l / 2) = l := by omega
      rw [e3]
theorem order {v : Nat} (hv : v = 2147483646) : 48271 ^ v % 2147483647 = 1 := by
  have h := pm_eq 31 48271 v 1 (by rw [hv]; decide)
  rw [Nat.one_mul] at h
  rw [← h, hv]
  decide +kernel
theorem pow_cycle (n : Nat) : 48271 ^ n % 2147483647 = 48271 ^ (n % 2147483646) % 2147483647 := by
  obtain ⟨v, hv⟩ : ∃ v, v = 2147483646 := ⟨_, rfl⟩
  rw [← hv]
  have e : n = v * (n / v) + n % v := (Nat.div_add_mod n v).symm
  conv => lhs; rw [e, Nat.pow_add, Nat.pow_mul, Nat.mul_mod, Nat.pow_mod, order hv, Nat.one_pow]
  rw [Nat.mod_eq_of_lt (show 1 < 2147483647 by omega), Nat.one_mul, Nat.mod_mod]
theorem J_lt (s e : Nat) : J s e < 2147483647 := Nat.mod_lt _ (by omega)
theorem J_J (s a b : Nat) : J (J s a) b = J s (a + b) := by
  unfold J
  rw [Nat.mod_mul_mod, Nat.mul_assoc, ← Nat.pow_add]
theorem J_cycle (s e : Nat) : J s e = J s (e % 2147483646) := by
  unfold J
  rw [Nat.mul_mod, pow_cycle, ← Nat.mul_mod]
theorem J_zero {s : Nat} (h : s < 2147483647) : J s 0 = s := by simp [J, Nat.mod_eq_of_lt h]
theorem J_pos {s : Nat} (h : 1 ≤ s) (h' : s < 2147483647) (e : Nat) : 1 ≤ J s e := by
  rcases Nat.eq_zero_or_pos (J s e) with h0 | h0
  · have h1 : J (J s e) (2147483646 - e % 2147483646) = s := by
      rw [J_cycle s e, J_J, J_cycle]
      have : (e % 2147483646 + (2147483646 - e % 2147483646)) % 2147483646 = 0 := by omega
      rw [this, J_zero h']
    rw [h0] at h1
    simp [J] at h1
    omega
  · exact h0

theorem rest_eq (k : Int) : restI k = k % 2147483646 := by
  have h1 := Int.tmod_add_mul_tdiv k 2147483646
  have h2 := Int.tmod_lt_of_pos k (show (0 : Int) < 2147483646 by omega)
  have h3 : -2147483646 < k.tmod 2147483646 := by
    rcases Int.le_total 0 k with h | h
    · have := Int.tmod_nonneg 2147483646 h; omega
    · have h4 := Int.tmod_lt_of_pos (-k) (show (0 : Int) < 2147483646 by omega)
      rw [Int.neg_tmod] at h4
      omega
  unfold restI
  generalize k.tmod 2147483646 = t at *
  generalize k.tdiv 2147483646 = q at *
  cases h : decide (t < 0) with
  | true =>
    simp only [decide_eq_true_eq] at h
    rw [cond_true, wr64 (by omega) (by omega)]
    omega
  | false =>
    simp only [decide_eq_false_iff_not] at h
    rw [cond_false]
    omega
theorem right_iff {s : Int} : rightB s = true ↔ 1 ≤ s ∧ s ≤ 2147483646 := by simp [rightB]
theorem jumpI_nat {s : Nat} (h : 1 ≤ s) (h' : s < 2147483647) (k : Int) : jumpI s k = ((J s (k % 2147483646).toNat : Nat) : Int) := by
  have hr : rightB (s : Int) = true := right_iff.2 ⟨by omega, by omega⟩
  unfold jumpI
  rw [hr, cond_true, rest_eq]
  have e : k % 2147483646 = (((k % 2147483646).toNat : Nat) : Int) := by omega
  conv => lhs; rw [e]
  exact jumpR_nat _ 48271 s (by omega) h'
theorem J_right {s : Nat} (h : 1 ≤ s) (h' : s < 2147483647) (e : Nat) : rightB ((J s e : Nat) : Int) = true := by
  have h1 := J_pos h h' e
  have h2 := J_lt s e
  exact right_iff.2 ⟨by omega, by omega⟩
/-- Jumps add up. -/
theorem jump_add {s : Nat} (h : 1 ≤ s) (h' : s < 2147483647) (x y z : Int) (hz : (x + y) % 2147483646 = z % 2147483646) : jumpI (jumpI s x) y = jumpI s z := by
  rw [jumpI_nat h h', jumpI_nat (J_pos h h' _) (J_lt _ _), jumpI_nat h h', J_J, J_cycle]
  congr 2
  omega
theorem jump_none {s : Nat} (h : 1 ≤ s) (h' : s < 2147483647) {z : Int} (hz : z % 2147483646 = 0) : jumpI s z = s := by
  rw [jumpI_nat h h', hz]
  simp [J_zero h']
theorem next_jump {s : Nat} (h : 1 ≤ s) (h' : s < 2147483647) : nextS s = jumpI s 1 := by
  have hr : rightB (s : Int) = true := right_iff.2 ⟨by omega, by omega⟩
  rw [jumpI_nat h h']
  unfold nextS
  rw [hr, cond_true]
  have := mulP_nat h' (show 48271 < 2147483647 by omega)
  rw [show ((48271 : Nat) : Int) = 48271 from rfl] at this
  rw [this]
  simp [J]
theorem next_value {s : Nat} (h : 1 ≤ s) (h' : s < 2147483647) : nextV s = nextS s - 1 := by
  have h0 := next_jump h h'
  have hr : rightB (s : Int) = true := right_iff.2 ⟨by omega, by omega⟩
  have hj := jumpI_nat h h' 1
  have h1 := J_pos h h' (1 % 2147483646 : Int).toNat
  have h2 := J_lt s (1 % 2147483646 : Int).toNat
  unfold nextS at h0 ⊢
  unfold nextV
  rw [hr, cond_true] at h0 ⊢
  rw [cond_true, h0, hj, wr64 (by omega) (by omega)]
end Go.Proofs.Ytnbfnoomhlamnaa
