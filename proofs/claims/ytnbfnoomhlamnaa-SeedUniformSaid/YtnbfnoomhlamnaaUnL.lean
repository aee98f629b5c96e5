/- Chapter 3: SeedUniform's formula, and that it is true. -/
import Derived.Test.YtnbfnoomhlamnaaUnT
namespace Go.Proofs.Ytnbfnoomhlamnaa
open Go Go.Eng
def un1 (U : NU) (v K : Int) : Option V :=
  bif !decide (wr .i64 (U.je (wr .i64 (v + 1)) + U.be (U.js (wr .i64 (v + 1)) (-1)) K) = 0) then some (.bool false) else
  bif decide (U.bv (U.js (wr .i64 (v + 1)) (-1)) K < 0) then some (.bool false) else
  bif decide (K ≤ U.bv (U.js (wr .i64 (v + 1)) (-1)) K) then some (.bool false) else
  bif decide (K = 0) then none else
  bif decide (v < wr .i64 (wr .i64 ((2147483646 : Int).tdiv K) * K)) then
    bif decide (K = 0) then none else
    bif decide (U.bv (U.js (wr .i64 (v + 1)) (-1)) K = v.tmod K) then some (.bool (decide (U.bs (U.js (wr .i64 (v + 1)) (-1)) K = wr .i64 (v + 1)))) else some (.bool false) else
  bif decide (U.be (wr .i64 (v + 1)) K = 0) then
    bif decide (U.bs (U.js (wr .i64 (v + 1)) (-1)) K = U.bs (wr .i64 (v + 1)) K) then some (.bool (decide (U.bv (U.js (wr .i64 (v + 1)) (-1)) K = U.bv (wr .i64 (v + 1)) K))) else some (.bool false)
  else some (.bool false)
def un0 (U : NU) (v n : Int) : Option V :=
  bif decide (n.tmod 2147483646 < 0) then un1 U v (wr .i64 (1 + wr .i64 (n.tmod 2147483646 + 2147483646))) else un1 U v (wr .i64 (1 + n.tmod 2147483646))
theorem un_eval (U : NU) (value n : Int) : evalAt (tabU U) plainL 5 Try.f5 [.int .i64 value, .int .i64 n] =
    bif decide (value.tmod 2147483646 < 0) then un0 U (wr .i64 (value.tmod 2147483646 + 2147483646)) n else un0 U (value.tmod 2147483646) n := by kernel_rfl

theorem nat_mostI {n : Int} (h1 : 1 ≤ n) (h2 : n ≤ 2147483646) : mostI n = wr .i64 (wr .i64 ((2147483646 : Int).tdiv n) * n) ∧ 1073741824 ≤ mostI n ∧ mostI n ≤ 2147483646 := by
  have e1 := Int.tmod_add_mul_tdiv 2147483646 n
  have e2 : 0 ≤ (2147483646 : Int).tmod n := Int.tmod_nonneg _ (by omega)
  have e3 : (2147483646 : Int).tmod n < n := Int.tmod_lt_of_pos _ (by omega)
  have e4 : 0 ≤ (2147483646 : Int).tdiv n := Int.tdiv_nonneg (by omega) (by omega)
  have e5 : (2147483646 : Int).tdiv n ≤ 2147483646 := Int.tdiv_le_self _ (by omega)
  have e6 : (2147483646 : Int).tdiv n = 1 ∨ 2 ≤ (2147483646 : Int).tdiv n := by
    have : 0 < (2147483646 : Int).tdiv n := by
      rcases Int.lt_or_le 0 ((2147483646 : Int).tdiv n) with h | h
      · exact h
      · have h0 : (2147483646 : Int).tdiv n = 0 := by omega
        rw [h0] at e1; omega
    omega
  unfold mostI
  generalize (2147483646 : Int).tmod n = r at *
  generalize (2147483646 : Int).tdiv n = q at *
  have hm : n * q = 2147483646 - r := by omega
  rw [wr64 (x := 2147483646 - r) (by omega) (by omega), wr64 (x := q) (by omega) (by omega), Int.mul_comm q n, hm, wr64 (by omega) (by omega)]
  refine ⟨rfl, ?_, by omega⟩
  rcases e6 with rfl | h
  · omega
  · have : n * 2 ≤ n * q := Int.mul_le_mul_of_nonneg_left h (by omega)
    omega
/-- One step of the generator, in natural numbers. -/
theorem mulP_J {s : Nat} (h : s < 2147483647) : mulP s 48271 = ((J s 1 : Nat) : Int) := by
  rw [show (48271 : Int) = ((48271 : Nat) : Int) from rfl, mulP_nat h (by omega)]
  simp [J]
theorem belowR_some {m : Int} : ∀ (k : Nat) (s : Nat) (e : Nat), 1 ≤ s → s < 2147483647 → e ≤ k → ((J s e : Nat) : Int) - 1 < m →
    belowR k ((s : Int) - 1) s m = belowR (k + 1) ((s : Int) - 1) s m
  | 0, s, e, h1, h2, he, hm => by
    obtain rfl : e = 0 := by omega
    rw [J_zero h2] at hm
    unfold belowR
    rw [decide_eq_true hm]; rfl
  | k + 1, s, e, h1, h2, he, hm => by
    unfold belowR
    cases hd : decide ((s : Int) - 1 < m) with
    | true => rfl
    | false =>
      simp only [decide_eq_false_iff_not] at hd
      rw [cond_false, cond_false]
      have hp := J_pos h1 h2 1
      have hl := J_lt s 1
      rw [mulP_J h2, wr64 (by omega) (by omega)]
      cases e with
      | zero => rw [J_zero h2] at hm; omega
      | succ e => exact belowR_some k (J s 1) e hp hl (by omega) (by rw [J_J, Nat.add_comm]; exact hm)
theorem drawn_same {s m : Int} (s1 : Nat) (hs : s = s1) (h1 : 1 ≤ s1) (h2 : s1 < 2147483647) (t : Nat) (ht : J t 1 = s1) (ht2 : t < 2147483647) (hm : 1073741824 ≤ m) (hn : ¬ s - 1 < m) :
    belowR 100 (wr .i64 (mulP t 48271 - 1)) (mulP t 48271) m = belowR 100 (wr .i64 (mulP s 48271 - 1)) (mulP s 48271) m := by
  subst hs
  obtain ⟨e, he, hl⟩ := no_run s1
  have hl : J s1 e ≤ 1073741824 := hl
  cases e with
  | zero => rw [J_zero h2] at hl; omega
  | succ e =>
    rw [mulP_J ht2, ht, wr64 (by omega) (by omega), mulP_J h2]
    have hp := J_pos h1 h2 1
    have hlt := J_lt s1 1
    rw [wr64 (by omega) (by omega)]
    have h99 := belowR_some (m := m) 99 (J s1 1) e hp hlt
    rw [J_J, Nat.add_comm 1 e] at h99
    rw [← h99 (by omega) (by omega)]
    conv => lhs; unfold belowR
    rw [decide_eq_false hn, cond_false, mulP_J h2, wr64 (by omega) (by omega)]
theorem belowR_pos {m : Int} : ∀ (k : Nat) (s : Nat), 1 ≤ s → s < 2147483647 → 0 ≤ (belowR k ((s : Int) - 1) s m).1
  | 0, s, h1, _ => by unfold belowR; show 0 ≤ (s : Int) - 1; omega
  | k + 1, s, h1, h2 => by
    unfold belowR
    cases decide ((s : Int) - 1 < m) with
    | true => show 0 ≤ (s : Int) - 1; omega
    | false =>
      have hp := J_pos h1 h2 1
      have hl := J_lt s 1
      rw [cond_false, mulP_J h2, wr64 (by omega) (by omega)]
      exact belowR_pos k _ hp hl
theorem drawn_pos {s : Nat} {n : Int} (h1 : 1 ≤ s) (h2 : s < 2147483647) : 0 ≤ (drawn s n).1 := by
  have hp := J_pos h1 h2 1
  have hl := J_lt s 1
  unfold drawn
  rw [mulP_J h2, wr64 (by omega) (by omega)]
  exact belowR_pos _ _ hp hl
theorem tmod_gt (n : Int) : -2147483646 < n.tmod 2147483646 := by
  rcases Int.le_total 0 n with h | h
  · have := Int.tmod_nonneg 2147483646 h; omega
  · have h4 := Int.tmod_lt_of_pos (-n) (show (0 : Int) < 2147483646 by omega)
    rw [Int.neg_tmod] at h4
    omega
/-- The law, for a value and a bound. -/
theorem un1_true {v n : Int} (hv : 0 ≤ v) (hv2 : v < 2147483646) (h1 : 1 ≤ n) (h2 : n ≤ 2147483646) : un1 nU v n = some (.bool true) := by
  obtain ⟨s1, hs⟩ : ∃ s1 : Nat, v + 1 = s1 := ⟨(v + 1).toNat, by omega⟩
  have w : wr .i64 (v + 1) = s1 := by rw [wr64 (by omega) (by omega), hs]
  have a1 : 1 ≤ s1 := by omega
  have a2 : s1 < 2147483647 := by omega
  obtain ⟨t, ht⟩ : ∃ t : Nat, jumpI (s1 : Int) (-1) = t ∧ 1 ≤ t ∧ t < 2147483647 ∧ J t 1 = s1 := by
    refine ⟨J s1 ((-1 : Int) % 2147483646).toNat, jumpI_nat a1 a2 _, J_pos a1 a2 _, J_lt _ _, ?_⟩
    rw [J_J, J_cycle]
    exact J_zero a2
  obtain ⟨hj, b1, b2, hb⟩ := ht
  obtain ⟨hm, hm1, hm2⟩ := nat_mostI h1 h2
  have r1 : rightB (s1 : Int) = true := right_iff.2 ⟨by omega, by omega⟩
  have r2 : rightB (t : Int) = true := right_iff.2 ⟨by omega, by omega⟩
  have g : ∀ x : Int, rightB x = true → belowB x n = false := fun x hx => by
    unfold belowB; rw [hx, decide_eq_false (show ¬ 2147483646 < n by omega), decide_eq_false (show ¬ n < 1 by omega)]; rfl
  have hd : drawn t n = bif decide (v < mostI n) then (v, (s1 : Int)) else drawn s1 n := by
    unfold drawn
    cases hd : decide (v < mostI n) with
    | true =>
      rw [cond_true, mulP_J b2, hb, wr64 (by omega) (by omega)]
      conv => lhs; unfold belowR
      rw [show (s1 : Int) - 1 = v by omega, hd]; rfl
    | false =>
      rw [decide_eq_false_iff_not] at hd
      exact drawn_same s1 rfl a1 a2 t hb b2 hm1 (by omega)
  have lt : ∀ s : Nat, 1 ≤ s → s < 2147483647 → 0 ≤ (drawn s n).1 := fun s c1 c2 => drawn_pos c1 c2
  simp only [un1, w, nU, hj, ← hm, belowS, belowV, g _ r1, g _ r2, r1, cond_false, errI, Bool.not_false, cond_true]
  have e0 : wr .i64 ((0 : Int) + 0) = 0 := by rw [wr64 (by omega) (by omega)]; rfl
  have p1 := Int.tmod_nonneg n (lt t b1 b2)
  have p2 := Int.tmod_lt_of_pos (drawn t n).1 (show 0 < n by omega)
  rw [e0, decide_eq_false (show ¬ (drawn t n).1.tmod n < 0 by omega), decide_eq_false (show ¬ n ≤ (drawn t n).1.tmod n by omega), decide_eq_false (show ¬ n = 0 by omega), hd]
  cases decide (v < mostI n) with
  | true => simp
  | false => simp
theorem un_true (value n : Int) : evalAt (tabU nU) plainL 5 Try.f5 [.int .i64 value, .int .i64 n] = some (.bool true) := by
  rw [un_eval]
  have k : ∀ v, 0 ≤ v → v < 2147483646 → un0 nU v n = some (.bool true) := fun v h1 h2 => by
    unfold un0
    have q1 := Int.tmod_lt_of_pos n (show (0 : Int) < 2147483646 by omega)
    have q2 := tmod_gt n
    generalize n.tmod 2147483646 = t at *
    cases hd : decide (t < 0) with
    | true =>
      rw [decide_eq_true_eq] at hd
      rw [cond_true, wr64 (x := t + 2147483646) (by omega) (by omega), wr64 (by omega) (by omega)]
      exact un1_true h1 h2 (by omega) (by omega)
    | false =>
      rw [decide_eq_false_iff_not] at hd
      rw [cond_false, wr64 (by omega) (by omega)]
      exact un1_true h1 h2 (by omega) (by omega)
  have q1 := Int.tmod_lt_of_pos value (show (0 : Int) < 2147483646 by omega)
  have q2 := tmod_gt value
  generalize value.tmod 2147483646 = t at *
  cases hd : decide (t < 0) with
  | true =>
    rw [decide_eq_true_eq] at hd
    rw [cond_true, wr64 (by omega) (by omega)]
    exact k _ (by omega) (by omega)
  | false =>
    rw [decide_eq_false_iff_not] at hd
    exact k _ (by omega) (by omega)
end Go.Proofs.Ytnbfnoomhlamnaa
