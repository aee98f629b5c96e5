/- Chapter 4: one round of CardLess's loops; bits. -/
import Derived.Test.YtbocdcnkmcejjaaDoorTop
namespace Go.Proofs.YtbocdcnkmcejjaaDoor
open Go Go.Eng
def bitI (r c : Int) : Int := bitsI .and .u64 (r.fdiv (2 ^ shAmt .u64 c)) 1
theorem cl_round1 (rd : Option Nat) (m s r l : Int) (b : Bool) (g : List Int) : roundT Tryd.prog (orcA tabL plainL) noLoops 100 1 rd 5 clLp1 clT1 clX1 [.i m, .i s, .b b, .i r, .i l, .l g] =
    bif decide (0 ≤ r ∧ r < 4503599627370496 ∧ 0 ≤ s ∧ s ≤ 3) then bif !(!(hN r.toNat s.toNat == 0)) then some (.exit 0, [.i m, .i s, .b b, .i r, .l g], []) else
      bif decide (l ≤ (topN r.toNat s.toNat : Nat)) then some (.ret, [.i m, .i s, .b false, .i r, .l g], []) else bif !decide (suitI (topN r.toNat s.toNat : Nat) = s) then some (.ret, [.i m, .i s, .b false, .i r, .l g], []) else
      bif decide (bitI r (topN r.toNat s.toNat : Nat) = 0) then some (.ret, [.i m, .i s, .b false, .i r, .l g], []) else
      some (.normal, [.i m, .i s, .b b, .i (bitsI .andNot .u64 r (wr .u64 (1 * 2 ^ shAmt .u64 (topN r.toNat s.toNat : Nat)))), .i (topN r.toNat s.toNat : Nat), .l g], [])
    else none := by kernel_rfl
theorem bit_nat {r c : Nat} (hr : r < 18446744073709551616) (hc : c < 64) : bitI (r : Int) (c : Int) = if r.testBit c then 1 else 0 := by
  unfold bitI
  have sh : shAmt .u64 (c : Int) = c := by
    unfold shAmt
    show min ((c : Int)).toNat 64 = c
    omega
  have e : ((r : Int).fdiv (2 ^ c)) = ((r / 2 ^ c : Nat) : Int) := by
    rw [show (2 : Int) ^ c = ((2 ^ c : Nat) : Int) by rw [Int.natCast_pow]; rfl]
    rw [Int.fdiv_eq_ediv_of_nonneg _ (Int.natCast_nonneg _)]
    rfl
  rw [sh, e]
  have := and_nat (a := r / 2 ^ c) (b := 1) (Nat.lt_of_le_of_lt (Nat.div_le_self _ _) hr) (by omega)
  rw [show ((1 : Nat) : Int) = 1 from rfl] at this
  rw [this, Nat.and_one_is_mod, Nat.testBit_eq_decide_div_mod_eq]
  by_cases h : r / 2 ^ c % 2 = 1
  · rw [h, decide_eq_true rfl]; rfl
  · rw [decide_eq_false h, show r / 2 ^ c % 2 = 0 by omega]; rfl
/-- A set without its highest card of a suit. -/
theorem clear_nat {r t : Nat} (hr : r < 4503599627370496) (ht : t < 52) : ∃ r' : Nat, bitsI .andNot .u64 (r : Int) (wr .u64 (1 * 2 ^ shAmt .u64 (t : Int))) = (r' : Int) ∧ r' < 4503599627370496 ∧ ∀ i, r'.testBit i = (r.testBit i && !decide (t = i)) := by
  have sh : shAmt .u64 (t : Int) = t := by
    unfold shAmt
    show min ((t : Int)).toNat 64 = t
    omega
  have hp : 2 ^ t < 18446744073709551616 := Nat.lt_of_lt_of_le (Nat.pow_lt_pow_right (by decide) ht) (show 2 ^ 52 ≤ 18446744073709551616 by decide)
  have e : wr .u64 (1 * 2 ^ shAmt .u64 (t : Int)) = ((2 ^ t : Nat) : Int) := by
    rw [sh, Int.one_mul, show (2 : Int) ^ t = ((2 ^ t : Nat) : Int) by rw [Int.natCast_pow]; rfl, wrU hp]
  rw [e]
  obtain ⟨r', h1, h2⟩ := andNot_nat (a := r) (b := 2 ^ t) (by omega) hp
  have hb : ∀ i, r'.testBit i = (r.testBit i && !decide (t = i)) := fun i => by rw [h2 i, Nat.testBit_two_pow]
  refine ⟨r', h1, ?_, hb⟩
  have : r' < 2 ^ 52 := Nat.lt_pow_two_of_testBit r' fun i hi => by
    rw [hb i, Nat.testBit_lt_two_pow (Nat.lt_of_lt_of_le hr (Nat.le_trans (show 4503599627370496 ≤ 2 ^ 52 by decide) (Nat.pow_le_pow_right (show 0 < 2 by decide) hi)))]
    rfl
  exact this
end Go.Proofs.YtbocdcnkmcejjaaDoor
