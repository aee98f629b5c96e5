/- Chapter 2: divide. -/
import Derived.Test.YtnbfnoomhlamnaaGreatNaNat2
namespace Go.Proofs.YtnbfnoomhlamnaaGreat.N2
open Go Go.Eng
abbrev RT := Option (XE × List PV × List (Code × Code))
def n4 : TR := .vs [.int .u32, .int .u32, .int .u32, .int .u32]
def z4 : TR := .vs [.lit .u32 0, .lit .u32 0, .lit .u32 0, .lit .u32 0]
def dvT1 : Tm := ⟨mkS [(2, .ptr 0 0), (3, .ptr 1 0), (4, .ptr 2 0), (5, .ptr 3 0), (6, .ptr 4 0), (7, .int .i64), (13, .int .i64), (14, .int .i64)] 0 41, [.own 25 n4, .own 25 n4, .own 25 z4, .own 25 z4, .own 25 z4], []⟩
def dvX1 : Tm := ⟨mkS [(2, .ptr 0 0), (3, .ptr 1 0), (4, .ptr 2 0), (5, .ptr 3 0), (6, .ptr 4 0), (7, .int .i64)] 0 41, [.own 25 n4, .own 25 n4, .own 25 z4, .own 25 z4, .own 25 z4], []⟩
def dvT2 : Tm := ⟨mkS [(2, .ptr 0 0), (3, .ptr 1 0), (4, .ptr 2 0), (5, .ptr 3 0), (6, .ptr 4 0), (20, .int .i64), (21, .int .i64)] 0 41, [.own 25 n4, .own 25 n4, .own 25 z4, .own 25 z4, .own 25 n4], []⟩
def dvX2 : Tm := ⟨mkS [(2, .ptr 0 0), (4, .ptr 2 0), (5, .ptr 3 0), (6, .ptr 4 0)] 0 41, [.own 25 n4, .dead, .own 25 z4, .own 25 z4, .own 25 n4], []⟩
noncomputable def dvLp1 : Code := loopOf 4 Tryz.f56
noncomputable def dvLp2 : Code := loopOf 8 Tryz.f56
theorem dv_round1 (rd : Option Nat) (s n i a0 a1 a2 a3 b0 b1 b2 b3 : Int) : roundT Tryz.prog (orcP tabA plainL) noLoops 200 0 rd 56 dvLp1 dvT1 dvX1 [.i s, .i n, .i i, .i a0, .i a1, .i a2, .i a3, .i b0, .i b1, .i b2, .i b3] =
    bif decide (i < n) then bif inN b0 b1 b2 b3 && inN b0 b1 b2 b3 then some (.normal, [.i s, .i n, .i (wr .i64 (i + 1)), .i a0, .i a1, .i a2, .i a3, .i (w0 (nval b0 b1 b2 b3 + nval b0 b1 b2 b3)), .i (w1 (nval b0 b1 b2 b3 + nval b0 b1 b2 b3)), .i (w2 (nval b0 b1 b2 b3 + nval b0 b1 b2 b3)), .i (w3 (nval b0 b1 b2 b3 + nval b0 b1 b2 b3))], [])
      else none else some (.exit 0, [.i s, .i a0, .i a1, .i a2, .i a3, .i b0, .i b1, .i b2, .i b3], []) := by kernel_rfl
def dvN (n i a b q : Int) : RT := some (.normal, [.i n, .i (wr .i64 (i + 1)), .i (w0 a), .i (w1 a), .i (w2 a), .i (w3 a), .i (w0 b), .i (w1 b), .i (w2 b), .i (w3 b), .i (w0 q), .i (w1 q), .i (w2 q), .i (w3 q)], [])
theorem dv_round2 (rd : Option Nat) (n i a0 a1 a2 a3 b0 b1 b2 b3 q0 q1 q2 q3 : Int) : roundT Tryz.prog (orcP tabA plainL) noLoops 200 0 rd 56 dvLp2 dvT2 dvX2 [.i n, .i i, .i a0, .i a1, .i a2, .i a3, .i b0, .i b1, .i b2, .i b3, .i q0, .i q1, .i q2, .i q3] =
    bif decide (i < n) then bif inN q0 q1 q2 q3 && inN q0 q1 q2 q3 then bif inN a0 a1 a2 a3 && inN b0 b1 b2 b3 then bif decide (0 ≤ cmpI (nval a0 a1 a2 a3) (nval b0 b1 b2 b3)) then bif (inN a0 a1 a2 a3 && inN b0 b1 b2 b3) && decide (nval b0 b1 b2 b3 ≤ nval a0 a1 a2 a3) then bif inN b0 b1 b2 b3 then
      some (.normal, [.i n, .i (wr .i64 (i + 1)), .i (w0 (nval a0 a1 a2 a3 - nval b0 b1 b2 b3)), .i (w1 (nval a0 a1 a2 a3 - nval b0 b1 b2 b3)), .i (w2 (nval a0 a1 a2 a3 - nval b0 b1 b2 b3)), .i (w3 (nval a0 a1 a2 a3 - nval b0 b1 b2 b3)), .i (w0 (nval b0 b1 b2 b3 / 2)), .i (w1 (nval b0 b1 b2 b3 / 2)), .i (w2 (nval b0 b1 b2 b3 / 2)), .i (w3 (nval b0 b1 b2 b3 / 2)),
        .i (bitsI .or .u32 (w0 (nval q0 q1 q2 q3 + nval q0 q1 q2 q3)) 1), .i (w1 (nval q0 q1 q2 q3 + nval q0 q1 q2 q3)), .i (w2 (nval q0 q1 q2 q3 + nval q0 q1 q2 q3)), .i (w3 (nval q0 q1 q2 q3 + nval q0 q1 q2 q3))], [])
      else none else none else bif inN b0 b1 b2 b3 then
      some (.normal, [.i n, .i (wr .i64 (i + 1)), .i a0, .i a1, .i a2, .i a3, .i (w0 (nval b0 b1 b2 b3 / 2)), .i (w1 (nval b0 b1 b2 b3 / 2)), .i (w2 (nval b0 b1 b2 b3 / 2)), .i (w3 (nval b0 b1 b2 b3 / 2)), .i (w0 (nval q0 q1 q2 q3 + nval q0 q1 q2 q3)), .i (w1 (nval q0 q1 q2 q3 + nval q0 q1 q2 q3)), .i (w2 (nval q0 q1 q2 q3 + nval q0 q1 q2 q3)), .i (w3 (nval q0 q1 q2 q3 + nval q0 q1 q2 q3))], [])
      else none else none else none
    else some (.exit 2, [.i a0, .i a1, .i a2, .i a3, .i q0, .i q1, .i q2, .i q3], []) := by kernel_rfl
theorem codes0 : codesOk [] := fun _ h => by cases h
theorem nval_id {z : Int} (h : 0 ≤ z ∧ z < 340282366920938463463374607431768211456) : nval (w0 z) (w1 z) (w2 z) (w3 z) = z := by rw [nval_w]; omega
theorem or_one (z : Int) : bitsI .or .u32 (w0 (2 * z)) 1 = w0 (2 * z + 1) ∧ w1 (2 * z) = w1 (2 * z + 1) ∧ w2 (2 * z) = w2 (2 * z + 1) ∧ w3 (2 * z) = w3 (2 * z + 1) := by
  refine ⟨?_, by unfold w1; omega, by unfold w2; omega, by unfold w3; omega⟩
  obtain ⟨k, hk⟩ : ∃ k : Nat, w0 (2 * z) = ((2 ^ 1 * k : Nat) : Int) := ⟨(w0 (2 * z) / 2).toNat, by unfold w0; omega⟩
  have hl : 2 ^ 1 * k < 4294967296 := by have : w0 (2 * z) < 4294967296 := by unfold w0; omega
                                         omega
  have : w0 (2 * z + 1) = w0 (2 * z) + 1 := by unfold w0; omega
  rw [this, hk]
  have h1 := or32 hl (show 1 < 4294967296 by decide)
  rw [← Nat.two_pow_add_eq_or_of_lt (i := 1) (b := 1) (by decide) k] at h1
  refine Eq.trans (show _ = bitsI .or .u32 ((2 ^ 1 * k : Nat) : Int) ((1 : Nat) : Int) from rfl) (h1.trans ?_)
  omega
theorem pow2_le {i j : Nat} (h : i ≤ j) : (2 : Int) ^ i ≤ 2 ^ j := by
  have h1 : ∀ k : Nat, (2 : Int) ^ k = ((2 ^ k : Nat) : Int) := fun k => by rw [Int.natCast_pow]; rfl
  have h2 := Nat.pow_le_pow_right (show 0 < 2 by decide) h
  rw [h1, h1]; omega
theorem pow_dbl (b : Int) (k : Nat) : b * 2 ^ (k + 1) = b * 2 ^ k + b * 2 ^ k := by
  rw [Int.pow_succ, ← Int.mul_assoc]; omega
theorem dv_loop1 (rd : Option Nat) (s a B : Int) (n : Nat) (hn : n ≤ 128) (hB : 0 ≤ B ∧ B * 2 ^ n < 340282366920938463463374607431768211456) : ∀ j : Nat, j ≤ n →
    SimC Tryz.prog 0 rd (.loop dvLp1) (dvT1.at [.i s, .i (n : Int), .i (j : Int), .i (w0 a), .i (w1 a), .i (w2 a), .i (w3 a), .i (w0 (B * 2 ^ j)), .i (w1 (B * 2 ^ j)), .i (w2 (B * 2 ^ j)), .i (w3 (B * 2 ^ j))]) (.exit 0)
      (dvX1.at [.i s, .i (w0 a), .i (w1 a), .i (w2 a), .i (w3 a), .i (w0 (B * 2 ^ n)), .i (w1 (B * 2 ^ n)), .i (w2 (B * 2 ^ n)), .i (w3 (B * 2 ^ n))]) := by
  refine loop_of_rounds (C := orcP tabA plainL) (L := noLoops) (N := 200) (me := 56) (T := dvT1) (T' := dvX1) (orcP_ok tabA_ok plainL_ok) mixed noLoops_ok (by kernel_rfl) (by kernel_rfl) (X := Nat)
    (fun j => [.i s, .i (n : Int), .i (j : Int), .i (w0 a), .i (w1 a), .i (w2 a), .i (w3 a), .i (w0 (B * 2 ^ j)), .i (w1 (B * 2 ^ j)), .i (w2 (B * 2 ^ j)), .i (w3 (B * 2 ^ j))]) (fun j => j ≤ n) (fun j => n - j)
    (fun _ => (.exit 0, [.i s, .i (w0 a), .i (w1 a), .i (w2 a), .i (w3 a), .i (w0 (B * 2 ^ n)), .i (w1 (B * 2 ^ n)), .i (w2 (B * 2 ^ n)), .i (w3 (B * 2 ^ n))])) ?_
  intro j hj
  have h := dv_round1 rd s n j (w0 a) (w1 a) (w2 a) (w3 a) (w0 (B * 2 ^ j)) (w1 (B * 2 ^ j)) (w2 (B * 2 ^ j)) (w3 (B * 2 ^ j))
  by_cases hlt : j < n
  · have hp : (2 : Int) ^ j ≤ 2 ^ n := pow2_le hj
    have hb : B * 2 ^ j ≤ B * 2 ^ n := Int.mul_le_mul_of_nonneg_left hp hB.1
    have h0 : 0 ≤ B * 2 ^ j := Int.mul_nonneg hB.1 (Int.le_of_lt (Int.pow_pos (by decide)))
    rw [decide_eq_true (show (j : Int) < n by omega), inN_w, nval_id ⟨h0, by omega⟩, ← pow_dbl, wr64 (by omega) (by omega)] at h
    exact ⟨_, _, _, h, codes0, .inl ⟨rfl, j + 1, rfl, by omega, by omega, rfl⟩⟩
  · have : j = n := by omega
    subst this
    rw [decide_eq_false (by omega)] at h
    exact ⟨_, _, _, h, codes0, .inr ⟨by simp, rfl⟩⟩
/-- The divisor in the round in which k are left. -/
def bK (B : Int) (k : Nat) : Int := if k = 0 then B / 2 else B * 2 ^ (k - 1)
theorem bK_half (B : Int) (k : Nat) (hk : k ≠ 0) : bK B k / 2 = bK B (k - 1) := by
  unfold bK
  rw [if_neg hk]
  by_cases h1 : k = 1
  · subst h1; simp
  · obtain ⟨m, rfl⟩ : ∃ m, k = m + 2 := ⟨k - 2, by omega⟩
    rw [if_neg (by omega), show m + 2 - 1 = m + 1 by omega, show m + 1 - 1 = m by omega, pow_dbl]
    omega
theorem dv_loop2 (rd : Option Nat) (A B : Int) (n : Nat) (hn : n ≤ 129) (hA : 0 ≤ A ∧ A < 340282366920938463463374607431768211456) (hB : 1 ≤ B) (hB2 : bK B n < 340282366920938463463374607431768211456) (hB3 : B < 340282366920938463463374607431768211456) : ∀ x : Nat × Int × Int,
    (x.1 ≤ n ∧ 0 ≤ x.2.1 ∧ 0 ≤ x.2.2 ∧ A = x.2.1 * (B * 2 ^ x.1) + x.2.2 ∧ x.2.2 < B * 2 ^ x.1) →
    SimC Tryz.prog 0 rd (.loop dvLp2) (dvT2.at [.i (n : Int), .i ((n - x.1 : Nat) : Int), .i (w0 x.2.2), .i (w1 x.2.2), .i (w2 x.2.2), .i (w3 x.2.2), .i (w0 (bK B x.1)), .i (w1 (bK B x.1)), .i (w2 (bK B x.1)), .i (w3 (bK B x.1)), .i (w0 x.2.1), .i (w1 x.2.1), .i (w2 x.2.1), .i (w3 x.2.1)]) (.exit 2)
      (dvX2.at [.i (w0 (A % B)), .i (w1 (A % B)), .i (w2 (A % B)), .i (w3 (A % B)), .i (w0 (A / B)), .i (w1 (A / B)), .i (w2 (A / B)), .i (w3 (A / B))]) := by
  refine loop_of_rounds (C := orcP tabA plainL) (L := noLoops) (N := 200) (me := 56) (T := dvT2) (T' := dvX2) (orcP_ok tabA_ok plainL_ok) mixed noLoops_ok (by kernel_rfl) (by kernel_rfl) (X := Nat × Int × Int)
    (fun x => [.i (n : Int), .i ((n - x.1 : Nat) : Int), .i (w0 x.2.2), .i (w1 x.2.2), .i (w2 x.2.2), .i (w3 x.2.2), .i (w0 (bK B x.1)), .i (w1 (bK B x.1)), .i (w2 (bK B x.1)), .i (w3 (bK B x.1)), .i (w0 x.2.1), .i (w1 x.2.1), .i (w2 x.2.1), .i (w3 x.2.1)])
    (fun x => x.1 ≤ n ∧ 0 ≤ x.2.1 ∧ 0 ≤ x.2.2 ∧ A = x.2.1 * (B * 2 ^ x.1) + x.2.2 ∧ x.2.2 < B * 2 ^ x.1) (fun x => x.1)
    (fun _ => (.exit 2, [.i (w0 (A % B)), .i (w1 (A % B)), .i (w2 (A % B)), .i (w3 (A % B)), .i (w0 (A / B)), .i (w1 (A / B)), .i (w2 (A / B)), .i (w3 (A / B))])) ?_
  rintro ⟨k, q, a⟩ ⟨hk, hq, ha, hE, hlt⟩
  dsimp only at hk hq ha hE hlt ⊢
  have h := dv_round2 rd n ((n - k : Nat) : Int) (w0 a) (w1 a) (w2 a) (w3 a) (w0 (bK B k)) (w1 (bK B k)) (w2 (bK B k)) (w3 (bK B k)) (w0 q) (w1 q) (w2 q) (w3 q)
  by_cases h0 : k = 0
  · subst h0
    rw [decide_eq_false (by omega)] at h
    simp only [Int.pow_zero, Int.mul_one] at hE hlt
    have e1 : A / B = q := by
      rw [hE, Int.add_comm, Int.add_mul_ediv_right _ _ (by omega), Int.ediv_eq_zero_of_lt ha hlt, Int.zero_add]
    have e2 : A % B = a := by
      rw [hE, Int.add_comm, Int.add_mul_emod_self_right, Int.emod_eq_of_lt ha hlt]
    rw [e1, e2]
    exact ⟨_, _, _, h, codes0, .inr ⟨by simp, rfl⟩⟩
  · obtain ⟨m, rfl⟩ : ∃ m, k = m + 1 := ⟨k - 1, by omega⟩
    have hP0 : (0 : Int) < 2 ^ m := Int.pow_pos (by decide)
    have hPB : 1 ≤ B * 2 ^ m := by
      have := Int.mul_le_mul hB (show (1 : Int) ≤ 2 ^ m by omega) (by decide) (by omega)
      omega
    have hbk : bK B (m + 1) = B * 2 ^ m := by unfold bK; rw [if_neg (by omega), show m + 1 - 1 = m by omega]
    have hPlt : B * 2 ^ m < 340282366920938463463374607431768211456 := by
      have hn1 : bK B n = B * 2 ^ (n - 1) := by unfold bK; rw [if_neg (by omega)]
      rw [hn1] at hB2
      have hp : (2 : Int) ^ m ≤ 2 ^ (n - 1) := pow2_le (by omega)
      have := Int.mul_le_mul_of_nonneg_left hp (show 0 ≤ B by omega)
      omega
    rw [pow_dbl] at hE hlt
    have hhalf := bK_half B (m + 1) (by omega)
    rw [show m + 1 - 1 = m by omega] at hhalf
    rw [hbk] at hhalf h ⊢
    generalize hP : B * 2 ^ m = P at *
    rw [Int.mul_add] at hE
    have hqP : q ≤ q * P := by
      have := Int.mul_le_mul_of_nonneg_left hPB hq
      omega
    have i1 : 0 ≤ q ∧ q < 340282366920938463463374607431768211456 := by omega
    have i2 : 0 ≤ a ∧ a < 340282366920938463463374607431768211456 := by omega
    have i3 : 0 ≤ P ∧ P < 340282366920938463463374607431768211456 := by omega
    rw [decide_eq_true (show ((n - (m + 1) : Nat) : Int) < (n : Int) by omega), inN_w, inN_w, inN_w, nval_id i1, nval_id i2, nval_id i3, hhalf, wr64 (x := ((n - (m + 1) : Nat) : Int) + 1) (by omega) (by omega),
      show ((n - (m + 1) : Nat) : Int) + 1 = ((n - m : Nat) : Int) by omega, show q + q = 2 * q by omega] at h
    have hc : decide (0 ≤ cmpI a P) = decide (P ≤ a) := by
      unfold cmpI
      by_cases c1 : a < P
      · rw [decide_eq_true c1, decide_eq_false (show ¬ P ≤ a by omega)]; rfl
      · rw [decide_eq_false c1, decide_eq_true (show P ≤ a by omega)]
        cases decide (P < a) <;> rfl
    rw [hc] at h
    by_cases hge : P ≤ a
    · obtain ⟨o0, o1, o2, o3⟩ := or_one q
      rw [decide_eq_true hge, o0, o1, o2, o3] at h
      exact ⟨_, _, _, h, codes0, .inl ⟨rfl, (m, 2 * q + 1, a - P), rfl, ⟨by dsimp only; omega, by dsimp only; omega, by dsimp only; omega, by
        dsimp only
        rw [hP, Int.add_mul, Int.mul_assoc]; omega, by dsimp only; rw [hP]; omega⟩, by dsimp only; omega, rfl⟩⟩
    · rw [decide_eq_false hge] at h
      exact ⟨_, _, _, h, codes0, .inl ⟨rfl, (m, 2 * q, a), rfl, ⟨by dsimp only; omega, by dsimp only; omega, by dsimp only; omega, by
        dsimp only
        rw [hP, Int.mul_assoc]; omega, by dsimp only; rw [hP]; omega⟩, by dsimp only; omega, rfl⟩⟩
end Go.Proofs.YtnbfnoomhlamnaaGreat.N2
