/- Texts merged: NaDg, NaTr. -/
import Derived.Test.YtnbfnoomhlamnaaNaW
import Derived.Test.YtnbfnoomhlamnaaNaNat2
import Derived.Test.YtnbfnoomhlamnaaEng4
/- Chapter 2: decimal digits, plainly (the lowest one first). -/
namespace Go.Proofs.Ytnbfnoomhlamnaa.N2
open Go Go.Eng
def Dg : Nat → Nat → List Int
  | 0, _ => []
  | k + 1, n => if n = 0 then [] else ((n % 10 : Nat) : Int) :: Dg k (n / 10)
theorem Dg_eq : ∀ {k m n : Nat}, n ≤ k → n ≤ m → Dg k n = Dg m n
  | 0, 0, _, _, _ => rfl
  | 0, m + 1, n, h, _ => by
    obtain rfl : n = 0 := by omega
    simp [Dg]
  | k + 1, 0, n, _, h => by
    obtain rfl : n = 0 := by omega
    simp [Dg]
  | k + 1, m + 1, n, h1, h2 => by
    simp only [Dg]
    by_cases h0 : n = 0
    · simp [h0]
    · rw [if_neg h0, if_neg h0, Dg_eq (k := k) (m := m) (by omega) (by omega)]
/-- The digits of a number. -/
def D (n : Nat) : List Int := Dg n n
theorem D_zero : D 0 = [] := rfl
theorem D_pos {n : Nat} (h : 0 < n) : D n = ((n % 10 : Nat) : Int) :: D (n / 10) := by
  obtain ⟨k, rfl⟩ : ∃ k, n = k + 1 := ⟨n - 1, by omega⟩
  show Dg (k + 1) (k + 1) = _
  simp only [Dg]
  rw [if_neg (by omega)]
  unfold D
  rw [Dg_eq (k := k) (m := (k + 1) / 10) (by omega) (by omega)]
def val : List Int → Int
  | [] => 0
  | d :: r => d + 10 * val r
/-- Digits. -/
def dig (l : List Int) : Bool := l.all fun d => decide (0 ≤ d ∧ d < 10)
theorem dig_cons {d : Int} {r : List Int} : dig (d :: r) = true ↔ (0 ≤ d ∧ d < 10) ∧ dig r = true := by simp [dig]
theorem dig_nil : dig [] = true := rfl
theorem dig_mem {l : List Int} (h : dig l = true) {d : Int} (hd : d ∈ l) : 0 ≤ d ∧ d < 10 := by
  have := List.all_eq_true.1 h d hd
  simpa using this
theorem dig_append {a b : List Int} : dig (a ++ b) = true ↔ dig a = true ∧ dig b = true := by simp [dig]
theorem val_nonneg : ∀ {l : List Int}, dig l = true → 0 ≤ val l
  | [], _ => by simp [val]
  | d :: r, h => by
    rw [dig_cons] at h
    have := val_nonneg h.2
    simp only [val]; omega
theorem val_lt : ∀ {l : List Int}, dig l = true → val l < 10 ^ l.length
  | [], _ => by simp [val]
  | d :: r, h => by
    rw [dig_cons] at h
    have := val_lt h.2
    simp only [val, List.length_cons, Int.pow_succ]; omega
theorem dig_D : ∀ n : Nat, dig (D n) = true := fun n => by
  induction n using Nat.strongRecOn with
  | _ n ih =>
    rcases Nat.eq_zero_or_pos n with rfl | h
    · rfl
    · rw [D_pos h, dig_cons]
      exact ⟨by omega, ih (n / 10) (by omega)⟩
theorem val_D : ∀ n : Nat, val (D n) = n := fun n => by
  induction n using Nat.strongRecOn with
  | _ n ih =>
    rcases Nat.eq_zero_or_pos n with rfl | h
    · rfl
    · rw [D_pos h]
      simp only [val]
      rw [ih (n / 10) (by omega)]
      omega
/-- Without zeros at the end. -/
def tz : List Int → List Int
  | [] => []
  | d :: r => match tz r with
    | [] => if d = 0 then [] else [d]
    | e :: q => d :: e :: q
theorem tz_cons (d : Int) (r : List Int) : tz (d :: r) = if tz r = [] then (if d = 0 then [] else [d]) else d :: tz r := by
  simp only [tz]
  cases h : tz r <;> simp
theorem tz_val : ∀ {l : List Int}, dig l = true → tz l = D (val l).toNat
  | [], _ => rfl
  | d :: r, h => by
    rw [dig_cons] at h
    have ih := tz_val h.2
    have h0 := val_nonneg h.2
    rw [tz_cons, ih]
    simp only [val]
    by_cases hz : val r = 0
    · rw [hz]
      rw [if_pos (show D (0 : Int).toNat = [] from rfl)]
      by_cases hd : d = 0
      · subst hd; rfl
      · rw [if_neg hd, show d + 10 * 0 = d by omega, D_pos (by omega), show d.toNat / 10 = 0 by omega, D_zero, show d.toNat % 10 = d.toNat by omega, show ((d.toNat : Nat) : Int) = d by omega]
    · have hp : 0 < (val r).toNat := by omega
      rw [if_neg (by rw [D_pos hp]; simp), D_pos (n := (d + 10 * val r).toNat) (by omega), show (((d + 10 * val r).toNat % 10 : Nat) : Int) = d by omega, show (d + 10 * val r).toNat / 10 = (val r).toNat by omega]
theorem tz_prefix : ∀ l : List Int, tz l = l.take (tz l).length
  | [] => rfl
  | d :: r => by
    have ih := tz_prefix r
    rw [tz_cons]
    split
    · split <;> simp
    · simp only [List.length_cons, List.take_succ_cons]
      rw [← ih]
theorem tz_le (l : List Int) : (tz l).length ≤ l.length := by
  have h := congrArg List.length (tz_prefix l)
  rw [List.length_take] at h; omega
theorem tz_D (n : Nat) : tz (D n) = D n := by rw [tz_val (dig_D n), val_D]; rfl
theorem tz_snoc_zero : ∀ l : List Int, tz (l ++ [0]) = tz l
  | [] => rfl
  | d :: r => by
    rw [List.cons_append, tz_cons, tz_cons, tz_snoc_zero r]
theorem tz_snoc_ne {d : Int} (hd : d ≠ 0) : ∀ l : List Int, tz (l ++ [d]) = l ++ [d]
  | [] => by simp [tz, hd]
  | e :: r => by
    rw [List.cons_append, tz_cons, tz_snoc_ne hd r, if_neg (by simp)]
/-- Canonical digits. -/
def isD (l : List Int) : Bool := decide (l = D (val l).toNat)
theorem isD_D (n : Nat) : isD (D n) = true := by unfold isD; rw [val_D]; simp
theorem isD_eq {l : List Int} (h : isD l = true) : ∃ n : Nat, l = D n := ⟨_, of_decide_eq_true h⟩
theorem D_len_pos {n : Nat} (h : 0 < n) : 0 < (D n).length := by rw [D_pos h]; simp
theorem D_inj {m n : Nat} (h : D m = D n) : m = n := by
  have := congrArg val h
  rw [val_D, val_D] at this; omega
/-- How long a number is. -/
theorem D_len_lt : ∀ {k n : Nat}, n < 10 ^ k → (D n).length ≤ k
  | 0, n, h => by
    obtain rfl : n = 0 := by simp at h; exact h
    simp [D_zero]
  | k + 1, n, h => by
    rcases Nat.eq_zero_or_pos n with rfl | hp
    · simp [D_zero]
    · rw [D_pos hp]
      have := D_len_lt (k := k) (n := n / 10) (by rw [Nat.pow_succ] at h; omega)
      simp only [List.length_cons]; omega
theorem D_len_ge : ∀ {k n : Nat}, 10 ^ k ≤ n → k < (D n).length
  | 0, n, h => D_len_pos (by simp at h; omega)
  | k + 1, n, h => by
    have hp : 0 < n := Nat.lt_of_lt_of_le (Nat.pow_pos (by decide)) h
    rw [D_pos hp]
    have := D_len_ge (k := k) (n := n / 10) (by rw [Nat.pow_succ] at h; omega)
    simp only [List.length_cons]; omega
end Go.Proofs.Ytnbfnoomhlamnaa.N2

/- Chapter 2, the reference: trim. -/
namespace Go.Proofs.Ytnbfnoomhlamnaa.N2
open Go Go.Eng
noncomputable def trLp : Code := loopOf 1 Try.f117
def trG (nn : Bool) : Tm := ⟨mkS [(0, .gs 0)] 0 21, [.rs nn 1 (.ints .i64)], []⟩
def trV (nn : Bool) : Tm := ⟨mkS [(0, .view 0 1)] 0 21, [.rs nn 1 (.ints .i64)], []⟩
def lastI (n : Nat) : Int := wr .i64 (Int.ofNat n - 1)
theorem tr_round0 (nn : Bool) (rd : Option Nat) (xs : List Int) : roundG Try.prog (orcP tabA plainL) noLoops 200 1 rd 117 trLp (trG nn) (trV nn) (trG nn) [.l xs] =
    bif decide (0 < Int.ofNat xs.length) then bif decide (0 ≤ lastI xs.length ∧ lastI xs.length < Int.ofNat xs.length) then oK xs[(lastI xs.length).toNat]? (fun v => bif decide (v = 0) then
      bif decide ((0 : Int) ≤ 0 ∧ 0 ≤ lastI xs.length ∧ lastI xs.length ≤ Int.ofNat xs.length) then some (.normal, [.n 0, .n ((lastI xs.length).toNat - 0), .l xs], []) else none else some (.exit 0, [.l xs], [])) else none else some (.exit 0, [.l xs], []) := by cases nn <;> kernel_rfl
theorem tr_round (nn : Bool) (rd : Option Nat) (m : Nat) (xs : List Int) : roundT Try.prog (orcP tabA plainL) noLoops 200 1 rd 117 trLp (trV nn) (trV nn) [.n 0, .n m, .l xs] =
    bif decide (0 < Int.ofNat m) then bif decide (0 ≤ lastI m ∧ lastI m < Int.ofNat m ∧ 0 + m ≤ xs.length) then oK xs[(lastI m).toNat]? (fun v => bif decide (v = 0) then bif decide (0 + m ≤ xs.length) then
      bif decide ((0 : Int) ≤ 0 ∧ 0 ≤ lastI m ∧ lastI m ≤ Int.ofNat m) then some (.normal, [.n 0, .n ((lastI m).toNat - 0), .l xs], []) else none else none else some (.exit 0, [.n 0, .n m, .l xs], [])) else none else some (.exit 0, [.n 0, .n m, .l xs], []) := by cases nn <;> kernel_rfl
end Go.Proofs.Ytnbfnoomhlamnaa.N2
