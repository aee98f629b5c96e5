/- Texts merged: NaNat2, NaDg, NaTr. -/
import Derived.Test.YtnbfnoomhlamnaaGreatNaNat1
import Derived.Lib.BitFns
import Derived.Lib.ItoaNum
import Derived.Test.YtnbfnoomhlamnaaGreatNaW
import Derived.Test.YtnbfnoomhlamnaaGreatEng4
/- Chapter 2: width and double; the functions so far in a table; divide's rounds. -/
namespace Go.Proofs.YtnbfnoomhlamnaaGreat.N2
open Go Go.Eng
/-- How many bits a number has. -/
def wd (z : Nat) : Nat := if z = 0 then 0 else Nat.log2 z + 1
theorem wd_of {z k : Nat} (h1 : 2 ^ k ≤ z) (h2 : z < 2 ^ (k + 1)) : wd z = k + 1 := by
  have hz : z ≠ 0 := by have := Nat.two_pow_pos k; omega
  unfold wd
  rw [if_neg hz, (Nat.log2_eq_iff hz).2 ⟨h1, h2⟩]
theorem wd_spec {z : Nat} (h : z ≠ 0) : 1 ≤ wd z ∧ 2 ^ (wd z - 1) ≤ z ∧ z < 2 ^ wd z := by
  unfold wd
  rw [if_neg h]
  exact ⟨by omega, Nat.log2_self_le h, Nat.lt_log2_self⟩
theorem wd_zero : wd 0 = 0 := rfl
theorem wd_le {z k : Nat} (h : z < 2 ^ k) : wd z ≤ k := by
  by_cases h0 : z = 0
  · subst h0; exact Nat.zero_le _
  · obtain ⟨h1, h2, _⟩ := wd_spec h0
    by_cases hk : wd z ≤ k
    · exact hk
    · have := Nat.pow_le_pow_right (show 0 < 2 by decide) (show k ≤ wd z - 1 by omega)
      omega
theorem lenI_wd {x : Int} (h : 0 < x ∧ x < 4294967296) : ∃ n : Nat, lenI x = n ∧ 1 ≤ n ∧ n ≤ 32 ∧ 2 ^ (n - 1) ≤ x.toNat ∧ x.toNat < 2 ^ n := by
  obtain ⟨b1, b2, b3⟩ := Lib.bitLenAux_bounds 64 x.toNat (by omega) (by omega)
  have e : Lib.bitLen x.toNat = Lib.bitLenAux 64 x.toNat := rfl
  have hle := Lib.bitLen_le x.toNat 32 (by omega) (by omega)
  rw [← e] at b1 b2 b3
  exact ⟨Lib.bitLen x.toNat, rfl, by omega, hle, b2, b3⟩
theorem wd_word {x : Int} {k : Nat} {z : Int} (h : 0 < x ∧ x < 4294967296) (h1 : x * 2 ^ k ≤ z) (h2 : z < (x + 1) * 2 ^ k) : wd z.toNat = k + (lenI x).toNat := by
  obtain ⟨n, e, n1, _, n3, n4⟩ := lenI_wd h
  obtain ⟨y, rfl⟩ : ∃ y : Nat, x = y := ⟨x.toNat, by omega⟩
  have hp : (2 : Int) ^ k = ((2 ^ k : Nat) : Int) := by rw [Int.natCast_pow]; rfl
  rw [hp] at h1 h2
  have h1' : y * 2 ^ k ≤ z.toNat := by
    have : ((y * 2 ^ k : Nat) : Int) ≤ z := by rw [Int.natCast_mul]; exact h1
    omega
  have h2' : z.toNat < (y + 1) * 2 ^ k := by
    have : z < (((y + 1) * 2 ^ k : Nat) : Int) := by rw [Int.natCast_mul]; exact h2
    have h0 : 0 ≤ z := Int.le_trans (by rw [← Int.natCast_mul]; exact Int.natCast_nonneg _) h1
    omega
  rw [e, show ((n : Int)).toNat = n by omega]
  simp only [Int.toNat_natCast] at n3 n4
  have q1 : 2 ^ (k + n - 1) ≤ z.toNat := by
    rw [show k + n - 1 = (n - 1) + k by omega, Nat.pow_add]
    exact Nat.le_trans (Nat.mul_le_mul_right _ n3) h1'
  have q2 : z.toNat < 2 ^ (k + n) := by
    rw [show k + n = n + k by omega, Nat.pow_add]
    exact Nat.lt_of_lt_of_le h2' (Nat.mul_le_mul_right _ n4)
  have := wd_of (z := z.toNat) (k := k + n - 1) q1 (by rw [show k + n - 1 + 1 = k + n by omega]; exact q2)
  omega
theorem width_p {a b c d : Int} (hx : inN a b c d = true) : FnPure Tryz.prog 81 [.agg [.int .u32 a, .int .u32 b, .int .u32 c, .int .u32 d]] (.int .i64 (wd (nval a b c d).toNat : Nat)) := by
  refine fnPure_of_eval (N := 200) (orcP_ok tabS_ok plainL_ok) mixed Tryz.func81 (by kernel_rfl) noLoops_ok ?_ rfl rfl
  rw [width_eval]
  have hx2 := hx
  rw [inN_iff] at hx
  obtain ⟨xa, xb, xc, xd⟩ := hx
  by_cases h3 : d = 0
  · rw [decide_eq_true h3]
    by_cases h2 : c = 0
    · rw [decide_eq_true h2]
      by_cases h1 : b = 0
      · rw [decide_eq_true h1]
        by_cases h0 : a = 0
        · rw [decide_eq_true h0]
          subst h0; subst h1; subst h2; subst h3
          rfl
        · rw [decide_eq_false h0, inW_iff.2 xa]
          have hw := wd_word (x := a) (k := 0) (z := nval a b c d) (by omega) (by unfold nval; omega) (by unfold nval; omega)
          obtain ⟨n, e, n1, n2, _, _⟩ := lenI_wd (x := a) (by omega)
          simp only [Bool.not_true, Bool.not_false, cond_true, cond_false]
          rw [hw, e, wr64 (by omega) (by omega)]
          simp
      · rw [decide_eq_false h1, inW_iff.2 xb]
        have hw := wd_word (x := b) (k := 32) (z := nval a b c d) (by omega) (by unfold nval; omega) (by unfold nval; omega)
        obtain ⟨n, e, n1, n2, _, _⟩ := lenI_wd (x := b) (by omega)
        simp only [Bool.not_true, Bool.not_false, cond_true, cond_false]
        rw [hw, e, wr64 (by omega) (by omega)]
        simp
    · rw [decide_eq_false h2, inW_iff.2 xc]
      have hw := wd_word (x := c) (k := 64) (z := nval a b c d) (by omega) (by unfold nval; omega) (by unfold nval; omega)
      obtain ⟨n, e, n1, n2, _, _⟩ := lenI_wd (x := c) (by omega)
      simp only [Bool.not_true, Bool.not_false, cond_true, cond_false]
      rw [hw, e, wr64 (by omega) (by omega)]
      simp
  · rw [decide_eq_false h3, inW_iff.2 xd]
    have hw := wd_word (x := d) (k := 96) (z := nval a b c d) (by omega) (by unfold nval; omega) (by unfold nval; omega)
    obtain ⟨n, e, n1, n2, _, _⟩ := lenI_wd (x := d) (by omega)
    simp only [Bool.not_false, cond_true]
    rw [hw, e, wr64 (by omega) (by omega)]
    simp
/-! ### tables -/
def gPlus : List V → Option (Bool × V)
  | [.agg [.int .u32 a, .int .u32 b, .int .u32 c, .int .u32 d], .agg [.int .u32 e, .int .u32 f, .int .u32 g, .int .u32 h]] => some (inN a b c d && inN e f g h, .tuple [nW (nval a b c d + nval e f g h), .int .u32 ((nval a b c d + nval e f g h) / 340282366920938463463374607431768211456)])
  | _ => none
def gMinus : List V → Option (Bool × V)
  | [.agg [.int .u32 a, .int .u32 b, .int .u32 c, .int .u32 d], .agg [.int .u32 e, .int .u32 f, .int .u32 g, .int .u32 h]] => some ((inN a b c d && inN e f g h) && decide (nval e f g h ≤ nval a b c d), nW (nval a b c d - nval e f g h))
  | _ => none
def gCmp : List V → Option (Bool × V)
  | [.agg [.int .u32 a, .int .u32 b, .int .u32 c, .int .u32 d], .agg [.int .u32 e, .int .u32 f, .int .u32 g, .int .u32 h]] => some (inN a b c d && inN e f g h, .int .i64 (cmpI (nval a b c d) (nval e f g h)))
  | _ => none
def gWidth : List V → Option (Bool × V)
  | [.agg [.int .u32 a, .int .u32 b, .int .u32 c, .int .u32 d]] => some (inN a b c d, .int .i64 (wd (nval a b c d).toNat : Nat))
  | _ => none
def gHalve : List V → Option (Bool × V)
  | [.agg [.int .u32 a, .int .u32 b, .int .u32 c, .int .u32 d]] => some (inN a b c d, nW (nval a b c d / 2))
  | _ => none
def tabA : PTab := addTab 15 gPlus (addTab 17 gMinus (addTab 16 gCmp (addTab 81 gWidth (addTab 83 gHalve tabS))))
theorem tabA_ok : PTabOk Tryz.prog tabA := by
  refine addTab_ok ?_ (addTab_ok ?_ (addTab_ok ?_ (addTab_ok ?_ (addTab_ok ?_ tabS_ok))))
  · intro args c v h hc
    unfold gPlus at h
    split at h
    · cases h; simp only [Bool.and_eq_true] at hc; exact plus_p hc.1 hc.2
    · cases h
  · intro args c v h hc
    unfold gMinus at h
    split at h
    · cases h; simp only [Bool.and_eq_true, decide_eq_true_eq] at hc; exact minus_p hc.1.1 hc.1.2 hc.2
    · cases h
  · intro args c v h hc
    unfold gCmp at h
    split at h
    · cases h; simp only [Bool.and_eq_true] at hc; exact cmp_p hc.1 hc.2
    · cases h
  · intro args c v h hc
    unfold gWidth at h
    split at h
    · cases h; exact width_p hc
    · cases h
  · intro args c v h hc
    unfold gHalve at h
    split at h
    · cases h; exact halve_p hc
    · cases h
end Go.Proofs.YtnbfnoomhlamnaaGreat.N2

/- Chapter 2: decimal digits, plainly (the lowest one first). -/
namespace Go.Proofs.YtnbfnoomhlamnaaGreat.N2
open Go Go.Eng
def Dg : Nat → Nat → List Int
  | 0, _ => []
  | k + 1, n => if n = 0 then [] else ((n % 10 : Nat) : Int) :: Dg k (n / 10)
theorem Dg_eq : ∀ {k m n : Nat}, n ≤ k → n ≤ m → Dg k n = Dg m n
  | 0, 0, _, _, _ => rfl
  | 0, m + 1, n, h, _ => by
    obtain rfl : n = 0 := by omega
    simp [Dg]
  | k + 1, 0, n, _, h => by
    obtain rfl : n = 0 := by omega
    simp [Dg]
  | k + 1, m + 1, n, h1, h2 => by
    simp only [Dg]
    by_cases h0 : n = 0
    · simp [h0]
    · rw [if_neg h0, if_neg h0, Dg_eq (k := k) (m := m) (by omega) (by omega)]
/-- The digits of a number. -/
def D (n : Nat) : List Int := Dg n n
theorem D_zero : D 0 = [] := rfl
theorem D_pos {n : Nat} (h : 0 < n) : D n = ((n % 10 : Nat) : Int) :: D (n / 10) := by
  obtain ⟨k, rfl⟩ : ∃ k, n = k + 1 := ⟨n - 1, by omega⟩
  show Dg (k + 1) (k + 1) = _
  simp only [Dg]
  rw [if_neg (by omega)]
  unfold D
  rw [Dg_eq (k := k) (m := (k + 1) / 10) (by omega) (by omega)]
def val : List Int → Int
  | [] => 0
  | d :: r => d + 10 * val r
/-- Digits. -/
def dig (l : List Int) : Bool := l.all fun d => decide (0 ≤ d ∧ d < 10)
theorem dig_cons {d : Int} {r : List Int} : dig (d :: r) = true ↔ (0 ≤ d ∧ d < 10) ∧ dig r = true := by simp [dig]
theorem dig_nil : dig [] = true := rfl
theorem dig_mem {l : List Int} (h : dig l = true) {d : Int} (hd : d ∈ l) : 0 ≤ d ∧ d < 10 := by
  have := List.all_eq_true.1 h d hd
  simpa using this
theorem dig_append {a b : List Int} : dig (a ++ b) = true ↔ dig a = true ∧ dig b = true := by simp [dig]
theorem val_nonneg : ∀ {l : List Int}, dig l = true → 0 ≤ val l
  | [], _ => by simp [val]
  | d :: r, h => by
    rw [dig_cons] at h
    have := val_nonneg h.2
    simp only [val]; omega
theorem val_lt : ∀ {l : List Int}, dig l = true → val l < 10 ^ l.length
  | [], _ => by simp [val]
  | d :: r, h => by
    rw [dig_cons] at h
    have := val_lt h.2
    simp only [val, List.length_cons, Int.pow_succ]; omega
theorem dig_D : ∀ n : Nat, dig (D n) = true := fun n => by
  induction n using Nat.strongRecOn with
  | _ n ih =>
    rcases Nat.eq_zero_or_pos n with rfl | h
    · rfl
    · rw [D_pos h, dig_cons]
      exact ⟨by omega, ih (n / 10) (by omega)⟩
theorem val_D : ∀ n : Nat, val (D n) = n := fun n => by
  induction n using Nat.strongRecOn with
  | _ n ih =>
    rcases Nat.eq_zero_or_pos n with rfl | h
    · rfl
    · rw [D_pos h]
      simp only [val]
      rw [ih (n / 10) (by omega)]
      omega
/-- Without zeros at the end. -/
def tz : List Int → List Int
  | [] => []
  | d :: r => match tz r with
    | [] => if d = 0 then [] else [d]
    | e :: q => d :: e :: q
theorem tz_cons (d : Int) (r : List Int) : tz (d :: r) = if tz r = [] then (if d = 0 then [] else [d]) else d :: tz r := by
  simp only [tz]
  cases h : tz r <;> simp
theorem tz_val : ∀ {l : List Int}, dig l = true → tz l = D (val l).toNat
  | [], _ => rfl
  | d :: r, h => by
    rw [dig_cons] at h
    have ih := tz_val h.2
    have h0 := val_nonneg h.2
    rw [tz_cons, ih]
    simp only [val]
    by_cases hz : val r = 0
    · rw [hz]
      rw [if_pos (show D (0 : Int).toNat = [] from rfl)]
      by_cases hd : d = 0
      · subst hd; rfl
      · rw [if_neg hd, show d + 10 * 0 = d by omega, D_pos (by omega), show d.toNat / 10 = 0 by omega, D_zero, show d.toNat % 10 = d.toNat by omega, show ((d.toNat : Nat) : Int) = d by omega]
    · have hp : 0 < (val r).toNat := by omega
      rw [if_neg (by rw [D_pos hp]; simp), D_pos (n := (d + 10 * val r).toNat) (by omega), show (((d + 10 * val r).toNat % 10 : Nat) : Int) = d by omega, show (d + 10 * val r).toNat / 10 = (val r).toNat by omega]
theorem tz_prefix : ∀ l : List Int, tz l = l.take (tz l).length
  | [] => rfl
  | d :: r => by
    have ih := tz_prefix r
    rw [tz_cons]
    split
    · split <;> simp
    · simp only [List.length_cons, List.take_succ_cons]
      rw [← ih]
theorem tz_le (l : List Int) : (tz l).length ≤ l.length := by
  have h := congrArg List.length (tz_prefix l)
  rw [List.length_take] at h; omega
theorem tz_D (n : Nat) : tz (D n) = D n := by rw [tz_val (dig_D n), val_D]; rfl
theorem tz_snoc_zero : ∀ l : List Int, tz (l ++ [0]) = tz l
  | [] => rfl
  | d :: r => by
    rw [List.cons_append, tz_cons, tz_cons, tz_snoc_zero r]
theorem tz_snoc_ne {d : Int} (hd : d ≠ 0) : ∀ l : List Int, tz (l ++ [d]) = l ++ [d]
  | [] => by simp [tz, hd]
  | e :: r => by
    rw [List.cons_append, tz_cons, tz_snoc_ne hd r, if_neg (by simp)]
/-- Canonical digits. -/
def isD (l : List Int) : Bool := decide (l = D (val l).toNat)
theorem isD_D (n : Nat) : isD (D n) = true := by unfold isD; rw [val_D]; simp
theorem isD_eq {l : List Int} (h : isD l = true) : ∃ n : Nat, l = D n := ⟨_, of_decide_eq_true h⟩
theorem D_len_pos {n : Nat} (h : 0 < n) : 0 < (D n).length := by rw [D_pos h]; simp
theorem D_inj {m n : Nat} (h : D m = D n) : m = n := by
  have := congrArg val h
  rw [val_D, val_D] at this; omega
/-- How long a number is. -/
theorem D_len_lt : ∀ {k n : Nat}, n < 10 ^ k → (D n).length ≤ k
  | 0, n, h => by
    obtain rfl : n = 0 := by simp at h; exact h
    simp [D_zero]
  | k + 1, n, h => by
    rcases Nat.eq_zero_or_pos n with rfl | hp
    · simp [D_zero]
    · rw [D_pos hp]
      have := D_len_lt (k := k) (n := n / 10) (by rw [Nat.pow_succ] at h; omega)
      simp only [List.length_cons]; omega
theorem D_len_ge : ∀ {k n : Nat}, 10 ^ k ≤ n → k < (D n).length
  | 0, n, h => D_len_pos (by simp at h; omega)
  | k + 1, n, h => by
    have hp : 0 < n := Nat.lt_of_lt_of_le (Nat.pow_pos (by decide)) h
    rw [D_pos hp]
    have := D_len_ge (k := k) (n := n / 10) (by rw [Nat.pow_succ] at h; omega)
    simp only [List.length_cons]; omega
end Go.Proofs.YtnbfnoomhlamnaaGreat.N2

/- Chapter 2, the reference: trim. -/
namespace Go.Proofs.YtnbfnoomhlamnaaGreat.N2
open Go Go.Eng
noncomputable def trLp : Code := loopOf 1 Tryz.f85
def trG (nn : Bool) : Tm := ⟨mkS [(0, .gs 0)] 0 21, [.rs nn 1 (.ints .i64)], []⟩
def trV (nn : Bool) : Tm := ⟨mkS [(0, .view 0 1)] 0 21, [.rs nn 1 (.ints .i64)], []⟩
def lastI (n : Nat) : Int := wr .i64 (Int.ofNat n - 1)
theorem tr_round0 (nn : Bool) (rd : Option Nat) (xs : List Int) : roundG Tryz.prog (orcP tabA plainL) noLoops 200 1 rd 85 trLp (trG nn) (trV nn) (trG nn) [.l xs] =
    bif decide (0 < Int.ofNat xs.length) then bif decide (0 ≤ lastI xs.length ∧ lastI xs.length < Int.ofNat xs.length) then oK xs[(lastI xs.length).toNat]? (fun v => bif decide (v = 0) then
      bif decide ((0 : Int) ≤ 0 ∧ 0 ≤ lastI xs.length ∧ lastI xs.length ≤ Int.ofNat xs.length) then some (.normal, [.n 0, .n ((lastI xs.length).toNat - 0), .l xs], []) else none else some (.exit 0, [.l xs], [])) else none else some (.exit 0, [.l xs], []) := by cases nn <;> kernel_rfl
theorem tr_round (nn : Bool) (rd : Option Nat) (m : Nat) (xs : List Int) : roundT Tryz.prog (orcP tabA plainL) noLoops 200 1 rd 85 trLp (trV nn) (trV nn) [.n 0, .n m, .l xs] =
    bif decide (0 < Int.ofNat m) then bif decide (0 ≤ lastI m ∧ lastI m < Int.ofNat m ∧ 0 + m ≤ xs.length) then oK xs[(lastI m).toNat]? (fun v => bif decide (v = 0) then bif decide (0 + m ≤ xs.length) then
      bif decide ((0 : Int) ≤ 0 ∧ 0 ≤ lastI m ∧ lastI m ≤ Int.ofNat m) then some (.normal, [.n 0, .n ((lastI m).toNat - 0), .l xs], []) else none else none else some (.exit 0, [.n 0, .n m, .l xs], [])) else none else some (.exit 0, [.n 0, .n m, .l xs], []) := by cases nn <;> kernel_rfl
end Go.Proofs.YtnbfnoomhlamnaaGreat.N2
