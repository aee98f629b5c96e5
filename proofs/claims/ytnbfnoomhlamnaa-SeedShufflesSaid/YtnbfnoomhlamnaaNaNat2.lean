/- Chapter 2: width and double; the functions so far in a table; divide's rounds. -/
import Derived.Test.YtnbfnoomhlamnaaNaNat1
import Derived.Lib.BitFns
import Derived.Lib.ItoaNum
namespace Go.Proofs.Ytnbfnoomhlamnaa.N2
open Go Go.Eng
/-- How many bits a number has. -/
def wd (z : Nat) : Nat := if z = 0 then 0 else Nat.log2 z + 1
theorem wd_of {z k : Nat} (h1 : 2 ^ k ≤ z) (h2 : z < 2 ^ (k + 1)) : wd z = k + 1 := by
  have hz : z ≠ 0 := by have := Nat.two_pow_pos k; omega
  unfold wd
  rw [if_neg hz, (Nat.log2_eq_iff hz).2 ⟨h1, h2⟩]
theorem wd_spec {z : Nat} (h : z ≠ 0) : 1 ≤ wd z ∧ 2 ^ (wd z - 1) ≤ z ∧ z < 2 ^ wd z := by
  unfold wd
  rw [if_neg h]
  exact ⟨by omega, Nat.log2_self_le h, Nat.lt_log2_self⟩
theorem wd_zero : wd 0 = 0 := rfl
theorem wd_le {z k : Nat} (h : z < 2 ^ k) : wd z ≤ k := by
  by_cases h0 : z = 0
  · subst h0; exact Nat.zero_le _
  · obtain ⟨h1, h2, _⟩ := wd_spec h0
    by_cases hk : wd z ≤ k
    · exact hk
    · have := Nat.pow_le_pow_right (show 0 < 2 by decide) (show k ≤ wd z - 1 by omega)
      omega
theorem lenI_wd {x : Int} (h : 0 < x ∧ x < 4294967296) : ∃ n : Nat, lenI x = n ∧ 1 ≤ n ∧ n ≤ 32 ∧ 2 ^ (n - 1) ≤ x.toNat ∧ x.toNat < 2 ^ n := by
  obtain ⟨b1, b2, b3⟩ := Lib.bitLenAux_bounds 64 x.toNat (by omega) (by omega)
  have e : Lib.bitLen x.toNat = Lib.bitLenAux 64 x.toNat := rfl
  have hle := Lib.bitLen_le x.toNat 32 (by omega) (by omega)
  rw [← e] at b1 b2 b3
  exact ⟨Lib.bitLen x.toNat, rfl, by omega, hle, b2, b3⟩
theorem wd_word {x : Int} {k : Nat} {z : Int} (h : 0 < x ∧ x < 4294967296) (h1 : x * 2 ^ k ≤ z) (h2 : z < (x + 1) * 2 ^ k) : wd z.toNat = k + (lenI x).toNat := by
  obtain ⟨n, e, n1, _, n3, n4⟩ := lenI_wd h
  obtain ⟨y, rfl⟩ : ∃ y : Nat, x = y := ⟨x.toNat, by omega⟩
  have hp : (2 : Int) ^ k = ((2 ^ k : Nat) : Int) := by rw [Int.natCast_pow]; rfl
  rw [hp] at h1 h2
  have h1' : y * 2 ^ k ≤ z.toNat := by
    have : ((y * 2 ^ k : Nat) : Int) ≤ z := by rw [Int.natCast_mul]; exact h1
    omega
  have h2' : z.toNat < (y + 1) * 2 ^ k := by
    have : z < (((y + 1) * 2 ^ k : Nat) : Int) := by rw [Int.natCast_mul]; exact h2
    have h0 : 0 ≤ z := Int.le_trans (by rw [← Int.natCast_mul]; exact Int.natCast_nonneg _) h1
    omega
  rw [e, show ((n : Int)).toNat = n by omega]
  simp only [Int.toNat_natCast] at n3 n4
  have q1 : 2 ^ (k + n - 1) ≤ z.toNat := by
    rw [show k + n - 1 = (n - 1) + k by omega, Nat.pow_add]
    exact Nat.le_trans (Nat.mul_le_mul_right _ n3) h1'
  have q2 : z.toNat < 2 ^ (k + n) := by
    rw [show k + n = n + k by omega, Nat.pow_add]
    exact Nat.lt_of_lt_of_le h2' (Nat.mul_le_mul_right _ n4)
  have := wd_of (z := z.toNat) (k := k + n - 1) q1 (by rw [show k + n - 1 + 1 = k + n by omega]; exact q2)
  omega
theorem width_p {a b c d : Int} (hx : inN a b c d = true) : FnPure Try.prog 64 [.agg [.int .u32 a, .int .u32 b, .int .u32 c, .int .u32 d]] (.int .i64 (wd (nval a b c d).toNat : Nat)) := by
  refine fnPure_of_eval (N := 200) (orcP_ok tabS_ok plainL_ok) mixed Try.func64 (by kernel_rfl) noLoops_ok ?_ rfl rfl
  rw [width_eval]
  have hx2 := hx
  rw [inN_iff] at hx
  obtain ⟨xa, xb, xc, xd⟩ := hx
  by_cases h3 : d = 0
  · rw [decide_eq_true h3]
    by_cases h2 : c = 0
    · rw [decide_eq_true h2]
      by_cases h1 : b = 0
      · rw [decide_eq_true h1]
        by_cases h0 : a = 0
        · rw [decide_eq_true h0]
          subst h0; subst h1; subst h2; subst h3
          rfl
        · rw [decide_eq_false h0, inW_iff.2 xa]
          have hw := wd_word (x := a) (k := 0) (z := nval a b c d) (by omega) (by unfold nval; omega) (by unfold nval; omega)
          obtain ⟨n, e, n1, n2, _, _⟩ := lenI_wd (x := a) (by omega)
          simp only [Bool.not_true, Bool.not_false, cond_true, cond_false]
          rw [hw, e, wr64 (by omega) (by omega)]
          simp
      · rw [decide_eq_false h1, inW_iff.2 xb]
        have hw := wd_word (x := b) (k := 32) (z := nval a b c d) (by omega) (by unfold nval; omega) (by unfold nval; omega)
        obtain ⟨n, e, n1, n2, _, _⟩ := lenI_wd (x := b) (by omega)
        simp only [Bool.not_true, Bool.not_false, cond_true, cond_false]
        rw [hw, e, wr64 (by omega) (by omega)]
        simp
    · rw [decide_eq_false h2, inW_iff.2 xc]
      have hw := wd_word (x := c) (k := 64) (z := nval a b c d) (by omega) (by unfold nval; omega) (by unfold nval; omega)
      obtain ⟨n, e, n1, n2, _, _⟩ := lenI_wd (x := c) (by omega)
      simp only [Bool.not_true, Bool.not_false, cond_true, cond_false]
      rw [hw, e, wr64 (by omega) (by omega)]
      simp
  · rw [decide_eq_false h3, inW_iff.2 xd]
    have hw := wd_word (x := d) (k := 96) (z := nval a b c d) (by omega) (by unfold nval; omega) (by unfold nval; omega)
    obtain ⟨n, e, n1, n2, _, _⟩ := lenI_wd (x := d) (by omega)
    simp only [Bool.not_false, cond_true]
    rw [hw, e, wr64 (by omega) (by omega)]
    simp
/-! ### tables -/
def gPlus : List V → Option (Bool × V)
  | [.agg [.int .u32 a, .int .u32 b, .int .u32 c, .int .u32 d], .agg [.int .u32 e, .int .u32 f, .int .u32 g, .int .u32 h]] => some (inN a b c d && inN e f g h, .tuple [nW (nval a b c d + nval e f g h), .int .u32 ((nval a b c d + nval e f g h) / 340282366920938463463374607431768211456)])
  | _ => none
def gMinus : List V → Option (Bool × V)
  | [.agg [.int .u32 a, .int .u32 b, .int .u32 c, .int .u32 d], .agg [.int .u32 e, .int .u32 f, .int .u32 g, .int .u32 h]] => some ((inN a b c d && inN e f g h) && decide (nval e f g h ≤ nval a b c d), nW (nval a b c d - nval e f g h))
  | _ => none
def gCmp : List V → Option (Bool × V)
  | [.agg [.int .u32 a, .int .u32 b, .int .u32 c, .int .u32 d], .agg [.int .u32 e, .int .u32 f, .int .u32 g, .int .u32 h]] => some (inN a b c d && inN e f g h, .int .i64 (cmpI (nval a b c d) (nval e f g h)))
  | _ => none
def gWidth : List V → Option (Bool × V)
  | [.agg [.int .u32 a, .int .u32 b, .int .u32 c, .int .u32 d]] => some (inN a b c d, .int .i64 (wd (nval a b c d).toNat : Nat))
  | _ => none
def gHalve : List V → Option (Bool × V)
  | [.agg [.int .u32 a, .int .u32 b, .int .u32 c, .int .u32 d]] => some (inN a b c d, nW (nval a b c d / 2))
  | _ => none
def tabA : PTab := addTab 63 gPlus (addTab 62 gMinus (addTab 21 gCmp (addTab 64 gWidth (addTab 66 gHalve tabS))))
theorem tabA_ok : PTabOk Try.prog tabA := by
  refine addTab_ok ?_ (addTab_ok ?_ (addTab_ok ?_ (addTab_ok ?_ (addTab_ok ?_ tabS_ok))))
  · intro args c v h hc
    unfold gPlus at h
    split at h
    · cases h; simp only [Bool.and_eq_true] at hc; exact plus_p hc.1 hc.2
    · cases h
  · intro args c v h hc
    unfold gMinus at h
    split at h
    · cases h; simp only [Bool.and_eq_true, decide_eq_true_eq] at hc; exact minus_p hc.1.1 hc.1.2 hc.2
    · cases h
  · intro args c v h hc
    unfold gCmp at h
    split at h
    · cases h; simp only [Bool.and_eq_true] at hc; exact cmp_p hc.1 hc.2
    · cases h
  · intro args c v h hc
    unfold gWidth at h
    split at h
    · cases h; exact width_p hc
    · cases h
  · intro args c v h hc
    unfold gHalve at h
    split at h
    · cases h; exact halve_p hc
    · cases h
end Go.Proofs.Ytnbfnoomhlamnaa.N2
