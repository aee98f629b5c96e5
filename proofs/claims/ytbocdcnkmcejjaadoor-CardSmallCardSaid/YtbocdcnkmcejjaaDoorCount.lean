/- Chapter 4: count counts the cards of a set. -/
import Derived.Test.YtbocdcnkmcejjaaDoorList2
namespace Go.Proofs.YtbocdcnkmcejjaaDoor
open Go Go.Eng
theorem odd_part : ∀ m : Nat, 0 < m → ∃ t k, m = 2 ^ t * (2 * k + 1) := by
  intro m
  induction m using Nat.strongRecOn with
  | _ m ih =>
    intro h
    by_cases ho : m % 2 = 1
    · exact ⟨0, m / 2, by rw [Nat.pow_zero, Nat.one_mul]; omega⟩
    · obtain ⟨t, k, e⟩ := ih (m / 2) (by omega) (by omega)
      exact ⟨t + 1, k, by rw [Nat.pow_succ, Nat.mul_assoc, Nat.mul_comm 2, ← Nat.mul_assoc, ← e]; omega⟩
/-- Without its least card. -/
theorem low_clear {m : Nat} (h : 0 < m) : ∃ t, m.testBit t = true ∧ ∀ i, (m &&& (m - 1)).testBit i = (m.testBit i && !decide (t = i)) := by
  obtain ⟨t, k, rfl⟩ := odd_part m h
  have hp := Nat.two_pow_pos t
  have e : 2 ^ t * (2 * k + 1) - 1 = 2 ^ t * (2 * k) + (2 ^ t - 1) := by rw [Nat.mul_add, Nat.mul_one]; omega
  have b1 : ∀ i, (2 ^ t * (2 * k + 1)).testBit i = (decide (t ≤ i) && (2 * k + 1).testBit (i - t)) := fun i => by rw [Nat.testBit_two_pow_mul]
  refine ⟨t, by rw [b1 t]; simp, fun i => ?_⟩
  rw [Nat.testBit_and, e, b1 i, Nat.testBit_two_pow_mul_add _ (by omega)]
  by_cases hi : i < t
  · rw [decide_eq_false (show ¬ t ≤ i by omega)]; rfl
  · rw [if_neg hi, decide_eq_true (show t ≤ i by omega)]
    by_cases ht : t = i
    · subst ht
      rw [decide_eq_true rfl, Nat.sub_self]
      have : (2 * k).testBit 0 = false := by simp
      rw [this]; simp
    · obtain ⟨j, hj⟩ : ∃ j, i - t = j + 1 := ⟨i - t - 1, by omega⟩
      rw [hj, decide_eq_false ht, Nat.testBit_succ, Nat.testBit_succ, show (2 * k + 1) / 2 = k by omega, show 2 * k / 2 = k by omega]
      cases k.testBit j <;> rfl
theorem desc_drop {r q t : Nat} (h1 : r.testBit t = true) (hq : ∀ i, q.testBit i = (r.testBit i && !decide (t = i))) : ∀ n, t < n → (desc r n).length = (desc q n).length + 1
  | 0, h => by omega
  | n + 1, h => by
    simp only [desc]
    by_cases e : t = n
    · subst e
      have hc := desc_congr (r := r) (q := q) t fun i hi => by rw [hq i, decide_eq_false (by omega)]; simp
      rw [h1, if_pos rfl, hq t, decide_eq_true rfl, hc]
      simp
    · have ih := desc_drop h1 hq n (by omega)
      rw [hq n, decide_eq_false e]
      cases r.testBit n <;> simp [ih]
noncomputable def cnLp : Code := loopOf 2 Tryd.f22
def cnT : Tm := ⟨mkS [(0, .int .u64), (3, .int .i64)] 0 13, [], []⟩
theorem cn_round (rd : Option Nat) (m n : Int) : roundT Tryd.prog orcO noLoops 100 0 rd 22 cnLp cnT cnT [.i m, .i n] =
    bif decide (0 < m) then some (.normal, [.i (bitsI .and .u64 m (wr .u64 (m - 1))), .i (wr .i64 (n + 1))], []) else some (.exit 0, [.i m, .i n], []) := by kernel_rfl
theorem cn_loop (rd : Option Nat) : ∀ x : Nat × Nat, (x.1 < 4503599627370496 ∧ x.2 + (desc x.1 52).length ≤ 60) →
    SimC Tryd.prog 0 rd (.loop cnLp) (cnT.at [.i (x.1 : Int), .i (x.2 : Int)]) (.exit 0) (cnT.at [.i 0, .i ((x.2 + (desc x.1 52).length : Nat) : Int)]) := by
  refine loop_of_rounds (C := orcO) (L := noLoops) (N := 100) (me := 22) (T := cnT) (T' := cnT) orcO_ok mixed noLoops_ok (by kernel_rfl) (by kernel_rfl) (X := Nat × Nat)
    (fun x => [.i (x.1 : Int), .i (x.2 : Int)]) (fun x => x.1 < 4503599627370496 ∧ x.2 + (desc x.1 52).length ≤ 60) (fun x => x.1) (fun x => (.exit 0, [.i 0, .i ((x.2 + (desc x.1 52).length : Nat) : Int)])) ?_
  rintro ⟨m, n⟩ ⟨hm, hl⟩
  dsimp only at hm hl ⊢
  have h := cn_round rd m n
  by_cases h0 : 0 < m
  · obtain ⟨t, t1, t2⟩ := low_clear h0
    have ht : t < 52 := by
      by_cases h : t < 52
      · exact h
      · rw [Nat.testBit_lt_two_pow (Nat.lt_of_lt_of_le hm (Nat.le_trans (show 4503599627370496 ≤ 2 ^ 52 by decide) (Nat.pow_le_pow_right (show 0 < 2 by decide) (show 52 ≤ t by omega))))] at t1
        cases t1
    have hd := desc_drop t1 t2 52 ht
    have hw : wr .u64 ((m : Int) - 1) = ((m - 1 : Nat) : Int) := by rw [show (m : Int) - 1 = ((m - 1 : Nat) : Int) by omega]; exact wrU (by omega)
    have hw2 : wr .i64 ((n : Int) + 1) = ((n + 1 : Nat) : Int) := by rw [wr64 (by omega) (by omega)]; omega
    rw [decide_eq_true (show 0 < (m : Int) by omega), cond_true, hw, and_nat (by omega) (by omega), hw2] at h
    have hle : m &&& (m - 1) ≤ m - 1 := Nat.and_le_right
    refine ⟨_, _, _, h, codes0, .inl ⟨rfl, (m &&& (m - 1), n + 1), rfl, ⟨by dsimp only; omega, by dsimp only; omega⟩, by dsimp only; omega, ?_⟩⟩
    dsimp only
    rw [hd]
    congr 5
    omega
  · have : m = 0 := by omega
    subst this
    have hd : desc 0 52 = [] := desc_skip 52 (Nat.zero_le _) (fun i _ => Nat.zero_testBit i)
    rw [decide_eq_false (show ¬ (0 : Int) < ((0 : Nat) : Int) by omega), cond_false] at h
    exact ⟨_, _, _, h, codes0, .inr ⟨by simp, by rw [hd]; rfl⟩⟩
end Go.Proofs.YtbocdcnkmcejjaaDoor
