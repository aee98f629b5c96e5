/- Chapter 6: the machine's operations on sets of cards, plainly. -/
import Derived.Test.YtpalajfcffdhoaaDoorEng4
import Derived.Test.YtpalajfcffdhoaaDoorPc
import Derived.Test.YtpalajfcffdhoaaDoorDm5
import Derived.Test.YtpalajfcffdhoaaDoorDm5
namespace Go.Deal
open Go Go.Eng
abbrev U64 : Nat := 18446744073709551616
theorem wrU {n : Nat} (h : n < 18446744073709551616) : wr .u64 (n : Int) = n := by
  simp only [wr]; omega
theorem wr64 {x : Int} (h1 : -9223372036854775808 ≤ x) (h2 : x < 9223372036854775808) : wr .i64 x = x := by
  simp only [wr, Eng.sgn]
  cases h : decide (9223372036854775808 ≤ x % 18446744073709551616) with
  | true => simp only [decide_eq_true_eq] at h; simp only [cond_true]; omega
  | false => simp only [decide_eq_false_iff_not] at h; simp only [cond_false]; omega
theorem bv_of (n : Nat) (h : n < 18446744073709551616) : (BitVec.ofInt 64 (n : Int)).toNat = n := by
  simp only [BitVec.toNat_ofInt]; omega
theorem and_nat {a b : Nat} (ha : a < 18446744073709551616) (hb : b < 18446744073709551616) : bitsI .and .u64 (a : Int) (b : Int) = ((a &&& b : Nat) : Int) := by
  unfold bitsI
  show wr .u64 (((BitVec.ofInt 64 (a : Int) &&& BitVec.ofInt 64 (b : Int)).toNat : Nat) : Int) = _
  rw [BitVec.toNat_and, bv_of a ha, bv_of b hb, wrU]
  exact Nat.lt_of_le_of_lt Nat.and_le_left ha
theorem or_nat {a b : Nat} (ha : a < 18446744073709551616) (hb : b < 18446744073709551616) : bitsI .or .u64 (a : Int) (b : Int) = ((a ||| b : Nat) : Int) := by
  unfold bitsI
  show wr .u64 (((BitVec.ofInt 64 (a : Int) ||| BitVec.ofInt 64 (b : Int)).toNat : Nat) : Int) = _
  rw [BitVec.toNat_or, bv_of a ha, bv_of b hb, wrU]
  exact Nat.or_lt_two_pow (n := 64) ha hb
theorem andNot_nat {a b : Nat} (ha : a < 18446744073709551616) (hb : b < 18446744073709551616) : bitsI .andNot .u64 (a : Int) (b : Int) = ((nd a b : Nat) : Int) := by
  unfold bitsI
  have e : (BitVec.ofInt 64 (a : Int) &&& ~~~(BitVec.ofInt 64 (b : Int))).toNat = nd a b := by
    refine Nat.eq_of_testBit_eq fun i => ?_
    rw [BitVec.toNat_and, Nat.testBit_and, bv_of a ha, nd_bit]
    by_cases hi : i < 64
    · congr 1
      rw [BitVec.testBit_toNat, BitVec.getLsbD_not, ← BitVec.testBit_toNat, bv_of b hb]
      simp [hi]
    · rw [Nat.testBit_lt_two_pow (Nat.lt_of_lt_of_le ha (Nat.pow_le_pow_right (n := 2) (by decide) (show 64 ≤ i by omega)))]; rfl
  show wr .u64 (((BitVec.ofInt 64 (a : Int) &&& ~~~(BitVec.ofInt 64 (b : Int))).toNat : Nat) : Int) = _
  rw [wrU (BitVec.isLt _), e]
theorem bit1 {q : Nat} (hq : q < 64) : wr .u64 (1 * 2 ^ shAmt .u64 (q : Int)) = ((2 ^ q : Nat) : Int) := by
  have sh : shAmt .u64 (q : Int) = q := by
    unfold shAmt
    show min ((q : Int)).toNat 64 = q
    omega
  have h64 : (2 : Nat) ^ q < 2 ^ 64 := Nat.pow_lt_pow_right (by decide) hq
  rw [sh, Int.one_mul, show (2 : Int) ^ q = ((2 ^ q : Nat) : Int) by rw [Int.natCast_pow]; rfl, wrU (by omega)]
/-- How many ones. -/
def cntI (x : Int) : Int := ((cnt x.toNat 64 : Nat) : Int)
def oc1 (x : Int) : Int := wr .u64 (bitsI .and .u64 (x.fdiv 2) 6148914691236517205 + bitsI .and .u64 x 6148914691236517205)
def oc2 (x : Int) : Int := wr .u64 (bitsI .and .u64 (x.fdiv 4) 3689348814741910323 + bitsI .and .u64 x 3689348814741910323)
def oc3 (x : Int) : Int := bitsI .and .u64 (wr .u64 (x.fdiv 16 + x)) 1085102592571150095
def oc4 (x : Int) : Int := wr .u64 (x + x.fdiv 256)
def oc5 (x : Int) : Int := wr .u64 (x + x.fdiv 65536)
def oc6 (x : Int) : Int := wr .u64 (x + x.fdiv 4294967296)
def ocI (m : Int) : Int := bitsI .and .i64 (wr .i64 (oc6 (oc5 (oc4 (oc3 (oc2 (oc1 m))))))) 127
theorem fdivN (a b : Nat) (hb : 0 < b) : (a : Int).fdiv (b : Int) = ((a / b : Nat) : Int) := by
  rw [Int.fdiv_eq_ediv_of_nonneg _ (by omega)]; rfl
theorem andI (a M : Nat) (ha : a < 18446744073709551616) (hM : M < 18446744073709551616) : bitsI .and .u64 (a : Int) (M : Int) = ((a &&& M : Nat) : Int) := and_nat ha hM
theorem oc1_eq {m : Nat} (h : m < 18446744073709551616) : oc1 (m : Int) = ((h1 m 6148914691236517205 : Nat) : Int) ∧ h1 m 6148914691236517205 < 18446744073709551616 := by
  have a1 : (m / 2 &&& 6148914691236517205) ≤ 6148914691236517205 := Nat.and_le_right
  have a2 : (m &&& 6148914691236517205) ≤ 6148914691236517205 := Nat.and_le_right
  have e : oc1 (m : Int) = wr .u64 (bitsI .and .u64 ((m : Int).fdiv ((2 : Nat) : Int)) ((6148914691236517205 : Nat) : Int) + bitsI .and .u64 (m : Int) ((6148914691236517205 : Nat) : Int)) := rfl
  have l : h1 m 6148914691236517205 < 18446744073709551616 := by unfold h1; omega
  refine ⟨?_, l⟩
  rw [e, fdivN _ _ (by decide), andI _ _ (by omega) (by decide), andI _ _ h (by decide), ← Int.natCast_add]
  exact wrU l
theorem oc2_eq {m : Nat} (h : m < 18446744073709551616) : oc2 (m : Int) = ((h2 m 3689348814741910323 : Nat) : Int) ∧ h2 m 3689348814741910323 < 18446744073709551616 := by
  have a1 : (m / 4 &&& 3689348814741910323) ≤ 3689348814741910323 := Nat.and_le_right
  have a2 : (m &&& 3689348814741910323) ≤ 3689348814741910323 := Nat.and_le_right
  have e : oc2 (m : Int) = wr .u64 (bitsI .and .u64 ((m : Int).fdiv ((4 : Nat) : Int)) ((3689348814741910323 : Nat) : Int) + bitsI .and .u64 (m : Int) ((3689348814741910323 : Nat) : Int)) := rfl
  have l : h2 m 3689348814741910323 < 18446744073709551616 := by unfold h2; omega
  refine ⟨?_, l⟩
  rw [e, fdivN _ _ (by decide), andI _ _ (by omega) (by decide), andI _ _ h (by decide), ← Int.natCast_add]
  exact wrU l
theorem h2_small (x M : Nat) (hM : M = 3689348814741910323) : h2 x M ≤ 7378697629483820646 := by
  subst hM
  have a1 : (x / 4 &&& 3689348814741910323) ≤ 3689348814741910323 := Nat.and_le_right
  have a2 : (x &&& 3689348814741910323) ≤ 3689348814741910323 := Nat.and_le_right
  unfold h2; omega
theorem oc3_eq {m : Nat} (h : m ≤ 7378697629483820646) : oc3 (m : Int) = ((h3 m 1085102592571150095 : Nat) : Int) := by
  have e : oc3 (m : Int) = bitsI .and .u64 (wr .u64 ((m : Int).fdiv ((16 : Nat) : Int) + (m : Int))) ((1085102592571150095 : Nat) : Int) := rfl
  rw [e, fdivN _ _ (by decide), ← Int.natCast_add, wrU (by omega), andI _ _ (by omega) (by decide)]
  rfl
theorem oc_eq {m : Nat} (h : m < 18446744073709551616) : ocI (m : Int) = cntI (m : Int) := by
  obtain ⟨q1, q2⟩ := pc_is h
  obtain ⟨e1, l1⟩ := oc1_eq h
  obtain ⟨e2, l2⟩ := oc2_eq l1
  have e3 := oc3_eq (h2_small (h1 m 6148914691236517205) _ rfl)
  unfold ocI cntI
  rw [e1, e2, e3, Int.toNat_natCast, ← q1]
  dsimp only [pcN]
  generalize h3 (h2 (h1 m 6148914691236517205) 3689348814741910323) 1085102592571150095 = a at *
  have s4 : oc4 (a : Int) = ((a + a / 256 : Nat) : Int) := by
    have e : oc4 (a : Int) = wr .u64 ((a : Int) + (a : Int).fdiv ((256 : Nat) : Int)) := rfl
    rw [e, fdivN _ _ (by decide), ← Int.natCast_add, wrU (by omega)]
  rw [s4]
  have hb : a + a / 256 ≤ 600000000000000000 := by omega
  generalize a + a / 256 = b at *
  have s5 : oc5 (b : Int) = ((b + b / 65536 : Nat) : Int) := by
    have e : oc5 (b : Int) = wr .u64 ((b : Int) + (b : Int).fdiv ((65536 : Nat) : Int)) := rfl
    rw [e, fdivN _ _ (by decide), ← Int.natCast_add, wrU (by omega)]
  rw [s5]
  have hc : b + b / 65536 ≤ 700000000000000000 := by omega
  generalize b + b / 65536 = c at *
  have s6 : oc6 (c : Int) = ((c + c / 4294967296 : Nat) : Int) := by
    have e : oc6 (c : Int) = wr .u64 ((c : Int) + (c : Int).fdiv ((4294967296 : Nat) : Int)) := rfl
    rw [e, fdivN _ _ (by decide), ← Int.natCast_add, wrU (by omega)]
  rw [s6]
  have hd : c + c / 4294967296 ≤ 800000000000000000 := by omega
  generalize c + c / 4294967296 = d at *
  rw [wr64 (by omega) (by omega)]
  have : ∀ x : Nat, x < 9223372036854775808 → bitsI .and .i64 (x : Int) 127 = ((x &&& 127 : Nat) : Int) := fun x hx => by
    unfold bitsI
    show wr .i64 (((BitVec.ofInt 64 (x : Int) &&& BitVec.ofInt 64 ((127 : Nat) : Int)).toNat : Nat) : Int) = _
    rw [BitVec.toNat_and, bv_of x (by omega), bv_of 127 (by decide)]
    have : (x &&& 127) ≤ 127 := Nat.and_le_right
    rw [wr64 (by omega) (by omega)]
  exact this d (by omega)
end Go.Deal
