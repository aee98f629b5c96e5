/- Chapter 4: what List answers. -/
import Derived.Test.YtbocdcnkmcejjaaDoorListT
import Derived.Test.YtbocdcnkmcejjaaDoorListT
import Derived.Test.YtbocdcnkmcejjaaDoorEng4
namespace Go.Proofs.YtbocdcnkmcejjaaDoor
open Go Go.Eng
/-- The cards of a set below n, the greatest first. -/
def desc (r : Nat) : Nat → List Int
  | 0 => []
  | n + 1 => if r.testBit n then (n : Int) :: desc r n else desc r n
theorem desc_skip {r t : Nat} : ∀ n : Nat, t ≤ n → (∀ i, t ≤ i → r.testBit i = false) → desc r n = desc r t
  | 0, h, _ => by rw [show t = 0 by omega]
  | n + 1, h, hz => by
    by_cases e : t = n + 1
    · rw [e]
    · simp only [desc]
      rw [hz n (by omega), if_neg (by simp)]
      exact desc_skip n (by omega) hz
theorem desc_congr {r q : Nat} : ∀ n : Nat, (∀ i, i < n → r.testBit i = q.testBit i) → desc r n = desc q n
  | 0, _ => rfl
  | n + 1, h => by
    simp only [desc]
    rw [h n (by omega), desc_congr n fun i hi => h i (by omega)]
theorem desc_len (r : Nat) : ∀ n : Nat, (desc r n).length ≤ n
  | 0 => by simp [desc]
  | n + 1 => by
    have := desc_len r n
    simp only [desc]
    split <;> simp <;> omega
/-- The greatest card of a set. -/
theorem big_spec {r : Nat} (hr : r < 4503599627370496) (h0 : r ≠ 0) : 1 ≤ Lib.bitLen r ∧ Lib.bitLen r ≤ 52 ∧ r.testBit (Lib.bitLen r - 1) = true ∧ ∀ i, Lib.bitLen r ≤ i → r.testBit i = false := by
  obtain ⟨b1, b2, b3⟩ := Lib.bitLenAux_bounds 64 r (by omega) h0
  have e : Lib.bitLen r = Lib.bitLenAux 64 r := rfl
  rw [← e] at b1 b2 b3
  have hle := Lib.bitLen_le r 52 (by omega) hr
  generalize Lib.bitLen r = n at *
  obtain ⟨k, rfl⟩ : ∃ k, n = k + 1 := ⟨n - 1, by omega⟩
  simp only [Nat.add_sub_cancel] at b2 ⊢
  refine ⟨by omega, hle, ?_, fun i hi => Nat.testBit_lt_two_pow (Nat.lt_of_lt_of_le b3 (Nat.pow_le_pow_right (by decide) hi))⟩
  rw [Nat.testBit_eq_decide_div_mod_eq, decide_eq_true_eq]
  have h1 : 1 ≤ r / 2 ^ k := (Nat.le_div_iff_mul_le (Nat.two_pow_pos k)).2 (by omega)
  have h2 : r / 2 ^ k < 2 := (Nat.div_lt_iff_lt_mul (Nat.two_pow_pos k)).2 (by rw [Nat.pow_succ] at b3; omega)
  omega
theorem desc_pop {r q t : Nat} (ht : t < 52) (h1 : r.testBit t = true) (h2 : ∀ i, t + 1 ≤ i → r.testBit i = false) (hq : ∀ i, q.testBit i = (r.testBit i && !decide (t = i))) : desc r 52 = (t : Int) :: desc q 52 := by
  rw [desc_skip 52 (show t + 1 ≤ 52 by omega) h2, desc_skip (r := q) 52 (show t ≤ 52 by omega) (fun i hi => by
    rw [hq i]
    by_cases e : t = i
    · rw [decide_eq_true e]; simp
    · rw [h2 i (by omega)]; rfl)]
  simp only [desc]
  rw [h1, if_pos rfl, desc_congr t fun i hi => by rw [hq i, decide_eq_false (by omega)]; simp]
def liC : List (Code × Code) → Prop := codesOk
theorem liCodes : codesOk [(liA, liA), (liB, liB)] := by intro x hx; simp at hx; rcases hx with rfl | rfl <;> rfl
noncomputable def liR (r : Int) (xs : List Int) : Option (XE × List PV × List (Code × Code)) := bif !decide (r = 0) then bif decide (0 ≤ r ∧ r ≤ 18446744073709551615) then
    bif decide ((xs ++ [wr .u8 (wr .i64 (lenI r - 1))]).length * 2 ≤ 70368744177664) then bif decide (wr .i64 (lenI r - 1) < 0) then none else
      some (.normal, [.i (bitsI .andNot .u64 r (wr .u64 (1 * 2 ^ shAmt .u64 (wr .i64 (lenI r - 1))))), .l (xs ++ [wr .u8 (wr .i64 (lenI r - 1))])], [(liA, liA), (liB, liB)])
    else none else none
  else some (.exit 0, [.i r, .l xs], [(liA, liA), (liB, liB)])
theorem li_first (rd : Option Nat) (r : Int) (xs : List Int) : roundG Tryd.prog orcO noLoops 100 5 rd 53 liLp liT0 liT1 liT0 [.i r, .l xs] = liR r xs := by kernel_rfl
theorem li_round (rd : Option Nat) (r : Int) (xs : List Int) : roundT Tryd.prog orcO noLoops 100 5 rd 53 liLp liT1 liT1 [.i r, .l xs] = liR r xs := by kernel_rfl
theorem liR_step {r : Nat} {xs : List Int} (hr : r < 4503599627370496) (h0 : r ≠ 0) (hl : xs.length ≤ 60) :
    ∃ r' : Nat, r' < 4503599627370496 ∧ liR (r : Int) xs = some (.normal, [.i (r' : Int), .l (xs ++ [((Lib.bitLen r - 1 : Nat) : Int)])], [(liA, liA), (liB, liB)]) ∧ desc r 52 = ((Lib.bitLen r - 1 : Nat) : Int) :: desc r' 52 ∧ r' < r := by
  obtain ⟨b1, b2, b3, b4⟩ := big_spec hr h0
  obtain ⟨r', e1, e2, e3⟩ := clear_nat (r := r) (t := Lib.bitLen r - 1) hr (by omega)
  have hL : lenI (r : Int) = ((Lib.bitLen r : Nat) : Int) := by unfold lenI; simp
  have hw : wr .i64 (((Lib.bitLen r : Nat) : Int) - 1) = ((Lib.bitLen r - 1 : Nat) : Int) := by rw [wr64 (by omega) (by omega)]; omega
  have hw8 : wr .u8 ((Lib.bitLen r - 1 : Nat) : Int) = ((Lib.bitLen r - 1 : Nat) : Int) := wr8 (by omega) (by omega)
  refine ⟨r', e2, ?_, desc_pop (by omega) b3 (fun i hi => b4 i (by omega)) e3, ?_⟩
  · unfold liR
    rw [hL, hw, hw8, e1, decide_eq_false (show ¬ (r : Int) = 0 by omega), decide_eq_true (show 0 ≤ (r : Int) ∧ (r : Int) ≤ 18446744073709551615 by omega),
      decide_eq_true (show (xs ++ [((Lib.bitLen r - 1 : Nat) : Int)]).length * 2 ≤ 70368744177664 by simp; omega), decide_eq_false (show ¬ ((Lib.bitLen r - 1 : Nat) : Int) < 0 by omega)]
    rfl
  · have hle : r' ≤ r := Nat.le_of_testBit fun i hi => by rw [e3 i] at hi; simp at hi; exact hi.1
    have hne : r' ≠ r := fun e => by
      have := e3 (Lib.bitLen r - 1)
      rw [e, b3, decide_eq_true rfl] at this
      cases this
    omega
end Go.Proofs.YtbocdcnkmcejjaaDoor
