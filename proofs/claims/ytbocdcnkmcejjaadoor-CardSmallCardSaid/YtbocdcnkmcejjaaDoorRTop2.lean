/- Chapter 4, the reference: Top and Low: the same as card's own. -/
import Derived.Test.YtbocdcnkmcejjaaDoorRTop
import Derived.Test.YtbocdcnkmcejjaaDoorMask2
namespace Go.Proofs.YtbocdcnkmcejjaaDoor
open Go Go.Eng
theorem tpR_none {m s : Nat} : ∀ {n : Nat}, tpR m s n = none → ∀ i, i < n → m.testBit (13 * s + i) = false
  | 0, _, i, hi => by omega
  | n + 1, h, i, hi => by
    unfold tpR at h
    split at h
    · cases h
    · rename_i hb
      by_cases e : i = n
      · subst e; simpa using hb
      · exact tpR_none h i (by omega)
theorem tpR_some {m s t : Nat} : ∀ {n : Nat}, tpR m s n = some t → ∃ i, i < n ∧ t = 13 * s + i ∧ m.testBit t = true ∧ ∀ j, i < j → j < n → m.testBit (13 * s + j) = false
  | 0, h => by cases h
  | n + 1, h => by
    unfold tpR at h
    split at h
    · rename_i hb
      cases h
      exact ⟨n, by omega, rfl, hb, fun j h1 h2 => by omega⟩
    · rename_i hb
      obtain ⟨i, h1, h2, h3, h4⟩ := tpR_some h
      refine ⟨i, by omega, h2, h3, fun j h5 h6 => ?_⟩
      by_cases e : j = n
      · subst e; simpa using hb
      · exact h4 j h5 (by omega)
theorem loR_none {m s : Nat} : ∀ {k n : Nat}, loR m s n k = none → ∀ i, n ≤ i → i < n + k → m.testBit (13 * s + i) = false
  | 0, n, _, i, h1, h2 => by omega
  | k + 1, n, h, i, h1, h2 => by
    unfold loR at h
    split at h
    · cases h
    · rename_i hb
      by_cases e : i = n
      · subst e; simpa using hb
      · exact loR_none h i (by omega) (by omega)
theorem loR_some {m s t : Nat} : ∀ {k n : Nat}, loR m s n k = some t → ∃ i, n ≤ i ∧ i < n + k ∧ t = 13 * s + i ∧ m.testBit t = true ∧ ∀ j, n ≤ j → j < i → m.testBit (13 * s + j) = false
  | 0, n, h => by cases h
  | k + 1, n, h => by
    unfold loR at h
    split at h
    · rename_i hb
      cases h
      exact ⟨n, by omega, by omega, rfl, hb, fun j h1 h2 => by omega⟩
    · rename_i hb
      obtain ⟨i, h0, h1, h2, h3, h4⟩ := loR_some h
      refine ⟨i, by omega, by omega, h2, h3, fun j h5 h6 => ?_⟩
      by_cases e : j = n
      · subst e; simpa using hb
      · exact h4 j (by omega) h6
theorem hN_zero {m s : Nat} (h : ∀ i, i < 13 → m.testBit (13 * s + i) = false) : hN m s = 0 := by
  apply Nat.eq_of_testBit_eq
  intro i
  rw [h_bit, Nat.zero_testBit]
  by_cases hi : 13 * s ≤ i ∧ i < 13 * s + 13
  · have := h (i - 13 * s) (by omega)
    rw [show 13 * s + (i - 13 * s) = i by omega] at this
    rw [this]; rfl
  · rw [decide_eq_false hi, Bool.and_false]
theorem in_hN {m s t i : Nat} (hi : i < 13) (ht : t = 13 * s + i) (hb : m.testBit t = true) : (hN m s).testBit t = true := by
  rw [h_bit, hb, decide_eq_true (by omega)]; rfl
theorem tp_eq {m s : Nat} (hm : m < 4503599627370496) : tpR m s 13 = if hN m s = 0 then none else some (topN m s) := by
  cases ht : tpR m s 13 with
  | none => rw [if_pos (hN_zero (tpR_none ht))]
  | some t =>
    obtain ⟨i, h1, h2, h3, h4⟩ := tpR_some ht
    have hb := in_hN h1 h2 h3
    have h0 : hN m s ≠ 0 := fun h => by rw [h, Nat.zero_testBit] at hb; cases hb
    rw [if_neg h0]
    obtain ⟨q1, q2⟩ := top_spec hm h0
    have hle : t ≤ topN m s := by
      rcases Nat.lt_or_ge (topN m s) t with hlt | hge
      · have : (hN m s).testBit t = false := Nat.testBit_lt_two_pow (Nat.lt_of_lt_of_le q2 (Nat.pow_le_pow_right (by decide) (by omega)))
        rw [this] at hb; cases hb
      · exact hge
    have q3 := q1
    rw [h_bit, Bool.and_eq_true, decide_eq_true_eq] at q3
    obtain ⟨q4, q5, q6⟩ := q3
    by_cases e : topN m s = t
    · rw [e]
    · have := h4 (topN m s - 13 * s) (by omega) (by omega)
      rw [show 13 * s + (topN m s - 13 * s) = topN m s by omega, q4] at this
      cases this
theorem lo_eq {m s : Nat} (hm : m < 4503599627370496) : loR m s 0 13 = if hN m s = 0 then none else some (lowN m s) := by
  cases ht : loR m s 0 13 with
  | none => rw [if_pos (hN_zero fun i hi => loR_none ht i (Nat.zero_le _) (by omega))]
  | some t =>
    obtain ⟨i, _, h1, h2, h3, h4⟩ := loR_some ht
    have hb := in_hN (by omega) h2 h3
    have h0 : hN m s ≠ 0 := fun h => by rw [h, Nat.zero_testBit] at hb; cases hb
    rw [if_neg h0]
    obtain ⟨q1, q2⟩ := low_spec hm h0
    have hle : lowN m s ≤ t := by
      rcases Nat.lt_or_ge t (lowN m s) with hlt | hge
      · rw [q2 t hlt] at hb; cases hb
      · exact hge
    have q3 := q1
    rw [h_bit, Bool.and_eq_true, decide_eq_true_eq] at q3
    obtain ⟨q4, q5, q6⟩ := q3
    by_cases e : lowN m s = t
    · rw [e]
    · have := h4 (lowN m s - 13 * s) (Nat.zero_le _) (by omega)
      rw [show 13 * s + (lowN m s - 13 * s) = lowN m s by omega, q4] at this
      cases this
def inM (m s : Int) : Bool := decide (m < 4503599627370496) && decide (s ≤ 3)
def toV (m s : Int) : Int := bif inM m s then ((topN m.toNat s.toNat : Nat) : Int) else 0
def loV (m s : Int) : Int := bif inM m s then ((lowN m.toNat s.toNat : Nat) : Int) else 0
def toB (m s : Int) : Bool := inM m s && !(hN m.toNat s.toNat == 0)
theorem rtop_p {m s : Int} (h0 : 0 ≤ m) (h1 : 0 ≤ s) : FnPure Tryd.prog 44 [.int .u64 m, .int .u8 s] (.tuple [.int .u8 (toV m s), .bool (toB m s)]) := by
  refine fnPure_of_eval (N := 100) orcNR_ok mixed Tryd.func44 (by kernel_rfl) rtL_ok ?_ rfl rfl
  have cd : codesB [(rtLp, rtLp)] = true := by rw [codesB_iff]; intro x hx; simp at hx; rw [hx]
  rw [rtop_eval R0, cd]
  unfold toV toB inM
  by_cases hs : 3 < s
  · rw [decide_eq_true hs, decide_eq_false (show ¬ s ≤ 3 by omega), Bool.and_false]; rfl
  · by_cases hm : m < 4503599627370496
    · have hC : rtC m s = true := by unfold rtC; rw [decide_eq_true_eq]; omega
      rw [decide_eq_false hs, decide_eq_true hm, decide_eq_true (show s ≤ 3 by omega), hC, tp_eq (by omega)]
      by_cases hz : hN m.toNat s.toNat = 0
      · rw [if_pos hz]
        have hz2 : topN m.toNat s.toNat = 0 := by unfold topN; rw [if_pos hz]
        rw [hz2, hz]; rfl
      · rw [if_neg hz]
        have : (hN m.toNat s.toNat == 0) = false := by simpa using hz
        rw [this]; rfl
    · rw [decide_eq_false hs, decide_eq_false hm, Bool.false_and]; rfl
theorem rlow_p {m s : Int} (h0 : 0 ≤ m) (h1 : 0 ≤ s) : FnPure Tryd.prog 45 [.int .u64 m, .int .u8 s] (.tuple [.int .u8 (loV m s), .bool (toB m s)]) := by
  refine fnPure_of_eval (N := 100) orcNR_ok mixed Tryd.func45 (by kernel_rfl) roL_ok ?_ rfl rfl
  have cd : codesB [(roLp, roLp)] = true := by rw [codesB_iff]; intro x hx; simp at hx; rw [hx]
  rw [rlow_eval R0, cd]
  unfold loV toB inM
  by_cases hs : 3 < s
  · rw [decide_eq_true hs, decide_eq_false (show ¬ s ≤ 3 by omega), Bool.and_false]; rfl
  · by_cases hm : m < 4503599627370496
    · have hC : rtC m s = true := by unfold rtC; rw [decide_eq_true_eq]; omega
      rw [decide_eq_false hs, decide_eq_true hm, decide_eq_true (show s ≤ 3 by omega), hC, lo_eq (by omega)]
      by_cases hz : hN m.toNat s.toNat = 0
      · rw [if_pos hz]
        have hz2 : lowN m.toNat s.toNat = 0 := by unfold lowN; rw [if_pos hz]
        rw [hz2, hz]; rfl
      · rw [if_neg hz]
        have : (hN m.toNat s.toNat == 0) = false := by simpa using hz
        rw [this]; rfl
    · rw [decide_eq_false hs, decide_eq_false hm, Bool.false_and]; rfl
end Go.Proofs.YtbocdcnkmcejjaaDoor
