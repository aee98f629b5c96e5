/- Chapter 4: Top of a set and a suit. -/
import Derived.Test.YtbocdcnkmcejjaaDoorTells0
import Derived.Lib.ItoaNum
namespace Go.Proofs.YtbocdcnkmcejjaaDoor
open Go Go.Eng
theorem wrU {n : Nat} (h : n < 18446744073709551616) : wr .u64 (n : Int) = n := by
  simp only [wr]; omega
theorem bv_of (n : Nat) (h : n < 18446744073709551616) : (BitVec.ofInt 64 (n : Int)).toNat = n := by
  simp only [BitVec.toNat_ofInt]; omega
theorem and_nat {a b : Nat} (ha : a < 18446744073709551616) (hb : b < 18446744073709551616) : bitsI .and .u64 (a : Int) (b : Int) = ((a &&& b : Nat) : Int) := by
  unfold bitsI
  show wr .u64 (((BitVec.ofInt 64 (a : Int) &&& BitVec.ofInt 64 (b : Int)).toNat : Nat) : Int) = _
  rw [BitVec.toNat_and, bv_of a ha, bv_of b hb, wrU]
  exact Nat.lt_of_le_of_lt Nat.and_le_left ha
theorem andNot_nat {a b : Nat} (ha : a < 18446744073709551616) (hb : b < 18446744073709551616) :
    ∃ c : Nat, bitsI .andNot .u64 (a : Int) (b : Int) = (c : Int) ∧ ∀ i, c.testBit i = (a.testBit i && !b.testBit i) := by
  unfold bitsI
  refine ⟨(BitVec.ofInt 64 (a : Int) &&& ~~~(BitVec.ofInt 64 (b : Int))).toNat, ?_, fun i => ?_⟩
  · show wr .u64 (((BitVec.ofInt 64 (a : Int) &&& ~~~(BitVec.ofInt 64 (b : Int))).toNat : Nat) : Int) = _
    exact wrU (BitVec.isLt _)
  · rw [BitVec.toNat_and, Nat.testBit_and, bv_of a ha]
    by_cases hi : i < 64
    · congr 1
      rw [BitVec.testBit_toNat, BitVec.getLsbD_not, ← BitVec.testBit_toNat, bv_of b hb]
      simp [hi]
    · have hp : 18446744073709551616 ≤ 2 ^ i := Nat.le_trans (show 18446744073709551616 ≤ 2 ^ 64 by decide) (Nat.pow_le_pow_right (show 0 < 2 by decide) (show 64 ≤ i by omega))
      rw [Nat.testBit_lt_two_pow (x := a) (i := i) (Nat.lt_of_lt_of_le ha hp)]
      simp
/-- The cards of a suit in a set. -/
def hN (r s : Nat) : Nat := r &&& (8191 * 2 ^ (13 * s))
def topN (r s : Nat) : Nat := if hN r s = 0 then 0 else Lib.bitLen (hN r s) - 1
theorem smask_lt {s : Nat} (h : s ≤ 3) : 8191 * 2 ^ (13 * s) < 18446744073709551616 := by
  have : s = 0 ∨ s = 1 ∨ s = 2 ∨ s = 3 := by omega
  rcases this with rfl | rfl | rfl | rfl <;> decide
theorem smask_bit {s i : Nat} : (8191 * 2 ^ (13 * s)).testBit i = decide (13 * s ≤ i ∧ i < 13 * s + 13) := by
  rw [Nat.mul_comm, show (8191 : Nat) = 2 ^ 13 - 1 from rfl]
  rw [Nat.testBit_two_pow_mul, Nat.testBit_two_pow_sub_one]
  by_cases h : 13 * s ≤ i
  · simp [h]; omega
  · simp [h]
theorem h_bit {r s i : Nat} : (hN r s).testBit i = (r.testBit i && decide (13 * s ≤ i ∧ i < 13 * s + 13)) := by
  unfold hN; rw [Nat.testBit_and, smask_bit]
theorem h_lt {r s : Nat} (hr : r < 4503599627370496) : hN r s < 4503599627370496 := Nat.lt_of_le_of_lt Nat.and_le_left hr
/-- The greatest card. -/
theorem top_spec {r s : Nat} (hr : r < 4503599627370496) (h0 : hN r s ≠ 0) : (hN r s).testBit (topN r s) = true ∧ hN r s < 2 ^ (topN r s + 1) := by
  have hlt := h_lt (s := s) hr
  obtain ⟨b1, b2, b3⟩ := Lib.bitLenAux_bounds 64 (hN r s) (by omega) h0
  unfold topN
  rw [if_neg h0]
  have e : Lib.bitLen (hN r s) = Lib.bitLenAux 64 (hN r s) := rfl
  rw [← e] at b1 b2 b3
  generalize hN r s = h at *
  generalize Lib.bitLen h = n at *
  obtain ⟨k, rfl⟩ : ∃ k, n = k + 1 := ⟨n - 1, by omega⟩
  simp only [Nat.add_sub_cancel] at b2 ⊢
  refine ⟨?_, b3⟩
  rw [Nat.testBit_eq_decide_div_mod_eq, decide_eq_true_eq]
  have h1 : 1 ≤ h / 2 ^ k := (Nat.le_div_iff_mul_le (Nat.two_pow_pos k)).2 (by omega)
  have h2 : h / 2 ^ k < 2 := (Nat.div_lt_iff_lt_mul (Nat.two_pow_pos k)).2 (by rw [Nat.pow_succ] at b3; omega)
  omega
theorem top_eval (m s : Int) : evalP tabP 20 Tryd.f20 [.int .u64 m, .int .u8 s] = bif decide (4503599627370495 < m) then some (.tuple [.int .u8 0, .bool false]) else bif decide (3 < s) then some (.tuple [.int .u8 0, .bool false]) else
    bif decide (wr .i64 (wr .i64 s * 13) < 0) then none else
    bif decide (bitsI .and .u64 m (wr .u64 (8191 * 2 ^ shAmt .u64 (wr .i64 (wr .i64 s * 13)))) = 0) then some (.tuple [.int .u8 0, .bool false]) else
    bif decide (0 ≤ bitsI .and .u64 m (wr .u64 (8191 * 2 ^ shAmt .u64 (wr .i64 (wr .i64 s * 13)))) ∧ bitsI .and .u64 m (wr .u64 (8191 * 2 ^ shAmt .u64 (wr .i64 (wr .i64 s * 13)))) ≤ 18446744073709551615) then
      some (.tuple [.int .u8 (wr .u8 (wr .i64 (lenI (bitsI .and .u64 m (wr .u64 (8191 * 2 ^ shAmt .u64 (wr .i64 (wr .i64 s * 13))))) - 1))), .bool true])
    else none := by kernel_rfl
theorem top_lt {r s : Nat} (hr : r < 4503599627370496) : topN r s < 52 := by
  by_cases h0 : hN r s = 0
  · unfold topN; rw [if_pos h0]; omega
  · have hlt := h_lt (s := s) hr
    have := (top_spec hr h0).1
    by_cases h : topN r s < 52
    · exact h
    · have hp : 4503599627370496 ≤ 2 ^ topN r s := Nat.le_trans (show 4503599627370496 ≤ 2 ^ 52 by decide) (Nat.pow_le_pow_right (show 0 < 2 by decide) (show 52 ≤ topN r s by omega))
      rw [Nat.testBit_lt_two_pow (Nat.lt_of_lt_of_le hlt hp)] at this
      cases this
theorem top_p {r s : Nat} (hr : r < 4503599627370496) (hs : s ≤ 3) : FnPure Tryd.prog 20 [.int .u64 (r : Int), .int .u8 (s : Int)] (.tuple [.int .u8 (topN r s : Nat), .bool (!(hN r s == 0))]) := by
  refine pure_at tabP_ok Tryd.func20 (by kernel_rfl) ?_ rfl rfl
  rw [top_eval]
  have w1 : wr .i64 (s : Int) = s := wr64 (by omega) (by omega)
  have w2 : wr .i64 ((s : Int) * 13) = ((13 * s : Nat) : Int) := by rw [wr64 (by omega) (by omega)]; omega
  have sh : shAmt .u64 ((13 * s : Nat) : Int) = 13 * s := by
    unfold shAmt
    show min (((13 * s : Nat) : Int)).toNat 64 = 13 * s
    omega
  have e1 : (8191 : Int) * 2 ^ (13 * s) = ((8191 * 2 ^ (13 * s) : Nat) : Int) := by rw [Int.natCast_mul, Int.natCast_pow]; rfl
  have hm := smask_lt hs
  rw [w1, w2, sh, e1, wrU hm, and_nat (by omega) hm]
  show (bif decide ((4503599627370495 : Int) < r) then _ else _) = _
  rw [decide_eq_false (show ¬ (4503599627370495 : Int) < r by omega), decide_eq_false (show ¬ (3 : Int) < s by omega), decide_eq_false (show ¬ ((13 * s : Nat) : Int) < 0 by omega)]
  have hlt := h_lt (s := s) hr
  change (bif decide (((hN r s : Nat) : Int) = 0) then _ else _) = _
  by_cases h0 : hN r s = 0
  · rw [h0, decide_eq_true (show ((0 : Nat) : Int) = 0 from rfl)]
    unfold topN
    rw [if_pos h0]
    rfl
  · have hb : 1 ≤ Lib.bitLen (hN r s) := (Lib.bitLenAux_bounds 64 (hN r s) (by omega) h0).1
    have ht : topN r s = Lib.bitLen (hN r s) - 1 := by unfold topN; rw [if_neg h0]
    have hl := top_lt (s := s) hr
    rw [decide_eq_false (show ¬ ((hN r s : Nat) : Int) = 0 by omega), cond_false]
    change (bif decide (0 ≤ ((hN r s : Nat) : Int) ∧ ((hN r s : Nat) : Int) ≤ 18446744073709551615) then some (V.tuple [.int .u8 (wr .u8 (wr .i64 (lenI ((hN r s : Nat) : Int) - 1))), .bool true]) else none) = _
    have hL : lenI ((hN r s : Nat) : Int) = ((Lib.bitLen (hN r s) : Nat) : Int) := by unfold lenI; simp
    rw [decide_eq_true (show 0 ≤ ((hN r s : Nat) : Int) ∧ ((hN r s : Nat) : Int) ≤ 18446744073709551615 by omega), cond_true, hL, wr64 (by omega) (by omega), wr8 (by omega) (by omega)]
    have hz : (hN r s == 0) = false := by simpa using h0
    rw [hz, ht, show ((Lib.bitLen (hN r s) : Nat) : Int) - 1 = ((Lib.bitLen (hN r s) - 1 : Nat) : Int) by omega]
    rfl
def gTop : List V → Option (Bool × V)
  | [.int .u64 m, .int .u8 s] => some (decide (0 ≤ m ∧ m < 4503599627370496 ∧ 0 ≤ s ∧ s ≤ 3), .tuple [.int .u8 (topN m.toNat s.toNat : Nat), .bool (!(hN m.toNat s.toNat == 0))])
  | _ => none
def tabL : PTab := addTab 20 gTop tabP
theorem tabL_ok : PTabOk Tryd.prog tabL := by
  refine addTab_ok ?_ tabP_ok
  intro args c v h hc
  unfold gTop at h
  split at h
  · rename_i m s
    cases h
    simp only [decide_eq_true_eq] at hc
    have := top_p (r := m.toNat) (s := s.toNat) (by omega) (by omega)
    rw [show ((m.toNat : Nat) : Int) = m by omega, show ((s.toNat : Nat) : Int) = s by omega] at this
    exact this
  · cases h
/-! ### CardLess's loops -/
noncomputable def clLp1 : Code := loopOf 4 Tryd.f5
noncomputable def clLp2 : Code := loopOf 11 Tryd.f5
def clT1 : Tm := ⟨mkS [(0, .int .u64), (1, .int .u8), (4, .bool), (5, .int .u64), (6, .int .u8)] 0 77, [.glob 0 (.ints .u8)], []⟩
def clX1 : Tm := ⟨mkS [(0, .int .u64), (1, .int .u8), (4, .bool), (5, .int .u64)] 0 77, [.glob 0 (.ints .u8)], []⟩
def clT2 : Tm := ⟨mkS [(0, .int .u64), (1, .int .u8), (4, .bool), (5, .int .u64), (9, .int .u8)] 0 77, [.glob 0 (.ints .u8)], []⟩
end Go.Proofs.YtbocdcnkmcejjaaDoor
