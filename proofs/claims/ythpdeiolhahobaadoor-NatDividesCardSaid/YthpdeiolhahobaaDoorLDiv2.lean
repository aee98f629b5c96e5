/- Chapter 2: NatDivides answers true. -/
import Derived.Test.YthpdeiolhahobaaDoorLDiv
namespace Go.Proofs.YthpdeiolhahobaaDoor
open Go Go.Eng
theorem iq_true (z : Int) : iq z = true := inN_w z
theorem q4_id {z : Int} (h : 0 ≤ z ∧ z < 340282366920938463463374607431768211456) : q4 z = z := nval_id h
theorem eqW_self {a b c d : Int} (h : inN a b c d = true) : eqW (nval a b c d) a b c d = true := by
  obtain ⟨h0, h1, h2, h3⟩ := w_nval h
  unfold eqW; rw [h0, h1, h2, h3]; simp
theorem eqW_zero : eqW 0 0 0 0 0 = true := rfl
theorem eqW_one : eqW 1 1 0 0 0 = true := rfl
theorem nd_end {A B : Int} : ndEnd A B true = some (.bool true) := by
  unfold ndEnd subE cmpI
  by_cases h : A < B
  · rw [decide_eq_true h]; rfl
  · rw [decide_eq_false h]; cases decide (B < A) <;> rfl
theorem nd_mul {a b c d B : Int} (hx : inN a b c d = true) (hB : 1 ≤ B ∧ B < 340282366920938463463374607431768211456) : ndMul (nval a b c d) B a b c d true true = some (.bool true) := by
  have hA := nval_range hx
  have hE := eqW_self hx
  unfold ndMul
  generalize nval a b c d = A at *
  rw [nd_end, iq_true]
  by_cases hl : A * B < 340282366920938463463374607431768211456
  · have h0 : 0 ≤ A * B := Int.mul_nonneg hA.1 (by omega)
    have e1 : mulZ A B = A * B := by unfold mulZ; rw [decide_eq_true hl]; rfl
    have e2 : divZ (A * B) B = A := by unfold divZ; rw [decide_eq_false (by omega), cond_false]; exact Int.mul_ediv_cancel _ (by omega)
    have e3 : remZ (A * B) B = 0 := by unfold remZ; rw [decide_eq_false (by omega), cond_false]; exact Int.mul_emod_left ..
    have e4 : divE B = 0 := by unfold divE; rw [decide_eq_false (by omega)]; rfl
    rw [e1, q4_id ⟨h0, hl⟩, e2, e3, e4, hE, eqW_zero]
    unfold mulE
    rw [decide_eq_true hl]; rfl
  · unfold mulE
    rw [decide_eq_false hl]; rfl
theorem nd_add {a b c d B : Int} (hx : inN a b c d = true) (hB : 1 ≤ B ∧ B < 340282366920938463463374607431768211456) : ndAdd (nval a b c d) B a b c d true true = some (.bool true) := by
  have hA := nval_range hx
  have hE := eqW_self hx
  have hm := nd_mul hx hB
  unfold ndAdd
  generalize nval a b c d = A at *
  rw [hm, iq_true]
  by_cases hl : A + B < 340282366920938463463374607431768211456
  · have e1 : addZ A B = A + B := by unfold addZ; rw [decide_eq_true hl]; rfl
    have e2 : subZ (A + B) B = A := by unfold subZ; rw [decide_eq_false (by omega), cond_false]; omega
    have e3 : subE (A + B) B = 0 := by unfold subE; rw [decide_eq_false (by omega)]; rfl
    rw [e1, q4_id ⟨by omega, hl⟩, e2, e3, hE]
    unfold addE
    rw [decide_eq_true hl]; rfl
  · unfold addE
    rw [decide_eq_false hl]; rfl
theorem gcd_facts {A B : Int} (hA : 0 ≤ A) (hB : 1 ≤ B) : 1 ≤ gcdZ A B ∧ gcdZ A B ≤ B ∧ A % gcdZ A B = 0 ∧ B % gcdZ A B = 0 ∧ gcdZ (A / gcdZ A B) (B / gcdZ A B) = 1 := by
  obtain ⟨m, rfl⟩ : ∃ m : Nat, A = m := ⟨A.toNat, by omega⟩
  obtain ⟨n, rfl⟩ : ∃ n : Nat, B = n := ⟨B.toNat, by omega⟩
  have hn : 0 < n := by omega
  have hg : 0 < Nat.gcd m n := Nat.gcd_pos_of_pos_right _ hn
  have d1 : m % Nat.gcd m n = 0 := Nat.mod_eq_zero_of_dvd (Nat.gcd_dvd_left m n)
  have d2 : n % Nat.gcd m n = 0 := Nat.mod_eq_zero_of_dvd (Nat.gcd_dvd_right m n)
  have hle : Nat.gcd m n ≤ n := Nat.le_of_dvd hn (Nat.gcd_dvd_right m n)
  have e : gcdZ (m : Int) (n : Int) = ((Nat.gcd m n : Nat) : Int) := rfl
  rw [e]
  refine ⟨by omega, by omega, by omega, by omega, ?_⟩
  have q1 : (m : Int) / ((Nat.gcd m n : Nat) : Int) = ((m / Nat.gcd m n : Nat) : Int) := rfl
  have q2 : (n : Int) / ((Nat.gcd m n : Nat) : Int) = ((n / Nat.gcd m n : Nat) : Int) := rfl
  rw [q1, q2]
  show ((Nat.gcd (m / Nat.gcd m n) (n / Nat.gcd m n) : Nat) : Int) = 1
  rw [Nat.gcd_div (Nat.gcd_dvd_left m n) (Nat.gcd_dvd_right m n), Nat.div_self hg]
  rfl
theorem nd_true {a b c d e f g h : Int} (hx : inN a b c d = true) (hy : inN e f g h = true) :
    evalFn Tryd.prog (orcM tabG plainL) noLoops 200 7 Tryd.f7 [.agg [.int .u32 a, .int .u32 b, .int .u32 c, .int .u32 d], .agg [.int .u32 e, .int .u32 f, .int .u32 g, .int .u32 h]] [] (fun v _ => some v) = some (.bool true) := by
  rw [nd_all, hx, hy]
  unfold ndAll
  rw [isZ_eq hy]
  have hA := nval_range hx
  have hB := nval_range hy
  have hE := eqW_self hx
  by_cases h0 : nval e f g h = 0
  · rw [h0, decide_eq_true rfl]
    have hg : gcdZ (nval a b c d) 0 = nval a b c d := by
      unfold gcdZ
      rw [show (0 : Int).toNat = 0 from rfl, Nat.gcd_zero_right]; omega
    rw [hg, hE]; rfl
  · rw [decide_eq_false h0]
    have hB1 : 1 ≤ nval e f g h := by omega
    have hadd := nd_add hx ⟨hB1, hB.2⟩
    obtain ⟨g1, g2, g3, g4, g5⟩ := gcd_facts hA.1 hB1
    unfold ndMain
    generalize nval e f g h = B at *
    generalize nval a b c d = A at *
    have d1 : divZ A B = A / B := by unfold divZ; rw [decide_eq_false h0]; rfl
    have d2 : remZ A B = A % B := by unfold remZ; rw [decide_eq_false h0]; rfl
    have n1 : 0 ≤ A / B := Int.ediv_nonneg hA.1 (by omega)
    have n2 : A / B ≤ A := Int.ediv_le_self _ hA.1
    have n3 : 0 ≤ A % B := Int.emod_nonneg _ h0
    have n4 : A % B < B := Int.emod_lt_of_pos _ (by omega)
    have n5 : B * (A / B) + A % B = A := Int.mul_ediv_add_emod A B
    have n6 : (A / B) * B = B * (A / B) := Int.mul_comm _ _
    have n7 : 0 ≤ B * (A / B) := Int.mul_nonneg (by omega) n1
    have m1 : mulZ (A / B) B = B * (A / B) := by unfold mulZ; rw [n6, decide_eq_true (by omega)]; rfl
    have m2 : mulE (A / B) B = 0 := by unfold mulE; rw [n6, decide_eq_true (by omega)]; rfl
    have s1 : addZ (B * (A / B)) (A % B) = A := by unfold addZ; rw [n5, decide_eq_true hA.2]; rfl
    have s2 : addE (B * (A / B)) (A % B) = 0 := by unfold addE; rw [n5, decide_eq_true hA.2]; rfl
    have v1 : divE B = 0 := by unfold divE; rw [decide_eq_false h0]; rfl
    generalize hG : gcdZ A B = G at *
    have v2 : divE G = 0 := by unfold divE; rw [decide_eq_false (by omega)]; rfl
    have r1 : remZ A G = 0 := by unfold remZ; rw [decide_eq_false (show ¬ G = 0 by omega), cond_false]; exact g3
    have r2 : remZ B G = 0 := by unfold remZ; rw [decide_eq_false (show ¬ G = 0 by omega), cond_false]; exact g4
    have t1 : divZ A G = A / G := by unfold divZ; rw [decide_eq_false (show ¬ G = 0 by omega)]; rfl
    have t2 : divZ B G = B / G := by unfold divZ; rw [decide_eq_false (show ¬ G = 0 by omega)]; rfl
    have k1 : 0 ≤ A / G := Int.ediv_nonneg hA.1 (by omega)
    have k2 : A / G ≤ A := Int.ediv_le_self _ hA.1
    have k3 : 0 ≤ B / G := Int.ediv_nonneg (by omega) (by omega)
    have k4 : B / G ≤ B := Int.ediv_le_self _ (by omega)
    have c1 : decide (0 ≤ cmpI (A % B) B) = false := by unfold cmpI; rw [decide_eq_true n4]; rfl
    have sum : ndSum A B = 0 := by
      unfold ndSum
      rw [hG, d1, d2, q4_id ⟨n1, by omega⟩, m1, q4_id ⟨n7, by omega⟩, q4_id ⟨n3, by omega⟩, q4_id ⟨by omega, by omega⟩, v1, m2, s2, v2]
      rfl
    rw [sum, d1, d2, iq_true, iq_true, iq_true, iq_true, iq_true, iq_true, q4_id ⟨n1, by omega⟩, m1, q4_id ⟨n7, by omega⟩, q4_id (z := A % B) ⟨n3, by omega⟩, s1, hE, c1, q4_id (z := G) ⟨by omega, by omega⟩, r1, r2, eqW_zero, t1, t2, q4_id (z := A / G) ⟨k1, by omega⟩, q4_id (z := B / G) ⟨k3, by omega⟩, g5, eqW_one]
    exact hadd
end Go.Proofs.YthpdeiolhahobaaDoor
