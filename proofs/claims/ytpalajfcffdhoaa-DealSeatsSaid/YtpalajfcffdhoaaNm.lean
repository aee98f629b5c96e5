/- Chapter 6: the names of nat stand for numbers; without, others. -/
import Derived.Test.YtpalajfcffdhoaaOrdR
import Derived.Test.YtpalajfcffdhoaaOrdR
namespace Go.Proofs.Ytpalajfcffdhoaa
open Go Go.Eng Go.Deal
theorem ch_bc : ∀ n k : Nat, N2.ch n k = Deal.bc n k
  | _, 0 => by rw [N2.ch_zero, Deal.bc_zero]
  | 0, k + 1 => rfl
  | n + 1, k + 1 => by rw [N2.ch, Deal.bc, ch_bc n k, ch_bc n (k + 1)]
theorem zq {x : Nat} (h : x < 340282366920938463463374607431768211456) : n6.z (N2.w0 (x : Int)) (N2.w1 (x : Int)) (N2.w2 (x : Int)) (N2.w3 (x : Int)) = (x : Int) := by
  rw [show n6.z = N2.nval from rfl, N2.nval_w]; omega
theorem qq {x : Nat} (h : x < 340282366920938463463374607431768211456) : n6.q (x : Int) = (x : Int) := zq h
theorem ini (x : Int) : n6.inn (N2.w0 x) (N2.w1 x) (N2.w2 x) (N2.w3 x) = true := N2.inN_w x
theorem ii (x : Int) : n6.i x = true := N2.inN_w x
theorem chq {n k : Nat} (hn : n ≤ 128) (hk : k ≤ n) : n6.ch (n : Int) (k : Int) = ((bc n k : Nat) : Int) := by
  rw [show n6.ch = N2.chZ from rfl]
  rw [N2.chZ_eq (by omega), if_pos (by omega), Int.toNat_natCast, Int.toNat_natCast, ch_bc]
theorem mulq {x y : Nat} (h : x * y < 340282366920938463463374607431768211456) : n6.mul (x : Int) (y : Int) = ((x * y : Nat) : Int) := by
  rw [show n6.mul = N2.mulZ from rfl]
  unfold N2.mulZ
  rw [← Int.natCast_mul, decide_eq_true (by omega)]; rfl
theorem quoq {x y : Nat} (h : 0 < y) : n6.quo (x : Int) (y : Int) = ((x / y : Nat) : Int) := by
  rw [show n6.quo = N2.divZ from rfl]
  unfold N2.divZ
  rw [decide_eq_false (by omega)]; rfl
theorem remq {x y : Nat} (h : 0 < y) : n6.rem (x : Int) (y : Int) = ((x % y : Nat) : Int) := by
  rw [show n6.rem = N2.remZ from rfl]
  unfold N2.remZ
  rw [decide_eq_false (by omega)]; rfl
theorem addq {x y : Nat} (h : x + y < 340282366920938463463374607431768211456) : n6.add (x : Int) (y : Int) = ((x + y : Nat) : Int) := by
  rw [show n6.add = N2.addZ from rfl]
  unfold N2.addZ
  rw [← Int.natCast_add, decide_eq_true (by omega)]; rfl
theorem subq {x y : Nat} (h : y ≤ x) : n6.sub (x : Int) (y : Int) = ((x - y : Nat) : Int) := by
  rw [show n6.sub = N2.subZ from rfl]
  unfold N2.subZ
  rw [decide_eq_false (by omega)]
  rw [cond_false]; omega
theorem cmpq (x y : Nat) : decide (n6.cmp (x : Int) (y : Int) < 0) = decide (x < y) := by
  rw [show n6.cmp = N2.cmpI from rfl, N2.cmp_lt]
  by_cases h : x < y
  · rw [decide_eq_true h, decide_eq_true (by omega)]
  · rw [decide_eq_false h, decide_eq_false (by omega)]
theorem smallz (x : Nat) : n6.z (x : Int) 0 0 0 = (x : Int) := by
  rw [show n6.z = N2.nval from rfl]
  unfold N2.nval; omega
theorem smalli {x : Nat} (h : x < 4294967296) : n6.inn (x : Int) 0 0 0 = true := by
  rw [show n6.inn = N2.inN from rfl, N2.inN_iff]; omega
/-! ### without -/
def k6 (z n k : Int) : Bool := decide (0 ≤ z ∧ z < 4503599627370497 ∧ 1 ≤ n ∧ n ≤ 52 ∧ 0 ≤ k ∧ k ≤ n)
def w6 (z n k : Int) : Int := z * (n - k) / n
theorem w6_is {n k : Nat} (h1 : 1 ≤ n) (hk : k ≤ n) : w6 ((bc n k : Nat) : Int) (n : Int) (k : Int) = ((bc (n - 1) k : Nat) : Int) := by
  unfold w6
  rw [show (n : Int) - (k : Int) = ((n - k : Nat) : Int) by omega, ← Int.natCast_mul, ← Int.natCast_ediv, bc_without (by omega)]
theorem bc_52 {n k : Nat} (h : n ≤ 52) : bc n k < 4503599627370497 := by
  have := bc_le n k
  have h2 : 2 ^ n ≤ 2 ^ 52 := Nat.pow_le_pow_right (by decide) h
  omega
theorem wt_p {a b c d n k : Int} (hi : N2.inN a b c d = true) (hk : k6 (N2.nval a b c d) n k = true) : FnPure Try.prog 63 [.agg [.int .u32 a, .int .u32 b, .int .u32 c, .int .u32 d], .int .i64 n, .int .i64 k] (n6.nW (w6 (N2.nval a b c d) n k)) := by
  refine fnPure_of_eval (N := 100) (orcN_ok tabN_ok plainL_ok) mixed Try.func63 (by kernel_rfl) noLoops_ok ?_ rfl rfl
  unfold k6 at hk
  simp only [decide_eq_true_eq] at hk
  obtain ⟨z1, z2, n1, n2, k1, k2⟩ := hk
  have hi' : n6.inn a b c d = true := hi
  rw [wt_eval, hi']
  have e : n6.z a b c d = N2.nval a b c d := rfl
  rw [e]
  obtain ⟨z, hz⟩ : ∃ z : Nat, N2.nval a b c d = z := ⟨_, (Int.toNat_of_nonneg z1).symm⟩
  obtain ⟨n', rfl⟩ : ∃ x : Nat, n = x := ⟨n.toNat, by omega⟩
  obtain ⟨k', rfl⟩ : ∃ x : Nat, k = x := ⟨k.toNat, by omega⟩
  rw [hz] at z2 ⊢
  have d1 : wr .u32 (wr .i64 ((n' : Int) - (k' : Int))) = ((n' - k' : Nat) : Int) := by
    rw [wr64 (by omega) (by omega), N2.wr32 (by omega) (by omega)]; omega
  have d2 : wr .u32 (n' : Int) = ((n' : Nat) : Int) := N2.wr32 (by omega) (by omega)
  have hp : z * (n' - k') < 340282366920938463463374607431768211456 := Nat.lt_of_le_of_lt (Nat.mul_le_mul (show z ≤ 4503599627370497 by omega) (show n' - k' ≤ 52 by omega)) (by decide)
  unfold wtI
  rw [d1, d2, smalli (by omega), smalli (by omega), smallz, smallz, mulq hp, ii, qq hp, quoq (by omega)]
  unfold w6
  rw [show (n' : Int) - (k' : Int) = ((n' - k' : Nat) : Int) by omega, ← Int.natCast_mul, ← Int.natCast_ediv]
  rfl
theorem tabW_ok : PTabOk Try.prog (tabW n6 k6 w6) := by
  refine addTab_ok ?_ tabN_ok
  intro args c v h hc
  unfold gWt at h
  split at h
  · cases h
    rw [Bool.and_eq_true] at hc
    exact wt_p hc.1 hc.2
  · cases h
end Go.Proofs.Ytpalajfcffdhoaa
