/- Texts merged: NaR12, NaR13. -/
import Derived.Test.YtnbfnoomhlamnaaGreatNaR11
/- Chapter 2, the reference: div, for every two lists of digits. -/
namespace Go.Proofs.YtnbfnoomhlamnaaGreat.N2
open Go Go.Eng
/-- The quotient's digits from one on. -/
def qL (m n L : Nat) (k : Nat) : List Int := (List.range' k (L - k)).map fun j => ((m / 10 ^ j / n % 10 : Nat) : Int)
theorem qL_step {m n L k : Nat} (h : k < L) : qL m n L k = ((m / 10 ^ k / n % 10 : Nat) : Int) :: qL m n L (k + 1) := by
  unfold qL
  rw [show L - k = (L - (k + 1)) + 1 by omega, List.range'_succ]; rfl
theorem qL_end (m n L : Nat) : qL m n L L = [] := by unfold qL; rw [Nat.sub_self]; rfl
theorem qL_len {m n L k : Nat} : (qL m n L k).length = L - k := by unfold qL; simp
theorem qL_dig {m n L k : Nat} : dig (qL m n L k) = true := by
  unfold dig qL
  rw [List.all_eq_true]
  intro d hd
  obtain ⟨j, _, rfl⟩ := List.mem_map.1 hd
  rw [decide_eq_true_eq]; omega
theorem div_step (A n : Nat) : A / n = 10 * (A / 10 / n) + A / n % 10 := by
  rw [Nat.div_div_eq_div_mul, Nat.mul_comm 10 n, ← Nat.div_div_eq_div_mul]; omega
theorem qL_val {m n L : Nat} (hL : m < 10 ^ L) : ∀ d k : Nat, k + d = L → val (qL m n L k) = ((m / 10 ^ k / n : Nat) : Int)
  | 0, k, h => by
    obtain rfl : k = L := by omega
    rw [qL_end, Nat.div_eq_of_lt hL, Nat.zero_div]; rfl
  | d + 1, k, h => by
    rw [qL_step (by omega)]
    simp only [val]
    rw [qL_val hL d (k + 1) (by omega)]
    have := div_step (m / 10 ^ k) n
    rw [Nat.pow_succ, ← Nat.div_div_eq_div_mul]
    omega
theorem dq_loop1 (n1 n2 : Bool) (rd : Option Nat) (m n : Nat) (hn : 1 ≤ n) (hln : (D n).length ≤ 999999) (hlm : (D m).length ≤ 999999) : ∀ k : Nat, k ≤ (D m).length →
    SimC Tryz.prog 2 rd (.loop dqLp1) ((dqT n1 n2).at [.i ((k : Int) - 1), .l (D m), .l (D n), .l (List.replicate k 0 ++ qL m n (D m).length k), .l (D (m / 10 ^ k % n))]) (.exit 0)
      ((dqX n1 n2).at [.l (D m), .l (D n), .l (qL m n (D m).length 0), .l (D (m % n))]) := by
  refine loop_of_rounds (C := orcD (hTabD D0) plainL) (L := dqL2 n1 n2) (N := 200) (me := 62) (T := dqT n1 n2) (T' := dqX n1 n2) (orcD_ok hTabD_ok plainL_ok) mixed (dqL2_ok n1 n2) (by cases n1 <;> cases n2 <;> kernel_rfl) (by cases n1 <;> cases n2 <;> kernel_rfl) (X := Nat)
    (fun k => [.i ((k : Int) - 1), .l (D m), .l (D n), .l (List.replicate k 0 ++ qL m n (D m).length k), .l (D (m / 10 ^ k % n))]) (fun k => k ≤ (D m).length) (fun k => k) (fun _ => (.exit 0, [.l (D m), .l (D n), .l (qL m n (D m).length 0), .l (D (m % n))])) ?_
  intro k hk
  have h := dq_round1 n1 n2 D0 rd ((k : Int) - 1) (D m) (D n) (List.replicate k 0 ++ qL m n (D m).length k) (D (m / 10 ^ k % n))
  cases k with
  | zero =>
    rw [decide_eq_false (by omega), cond_false] at h
    rw [Nat.pow_zero, Nat.div_one] at h ⊢
    exact ⟨_, _, _, h, codes0, .inr ⟨by simp, rfl⟩⟩
  | succ k =>
    have hi : (((k + 1 : Nat) : Int) - 1) = (k : Int) := by omega
    have hg := D_get (m := m) (i := k)
    rw [if_pos (by omega)] at hg
    have hr : m / 10 ^ (k + 1) % n < n := Nat.mod_lt _ (by omega)
    have hlr : (D (m / 10 ^ (k + 1) % n)).length ≤ (D n).length := D_mono (Nat.le_of_lt hr)
    have hB : m / 10 ^ (k + 1) = m / 10 ^ k / 10 := by rw [Nat.pow_succ, ← Nat.div_div_eq_div_mul]
    have hws : dqW ((m / 10 ^ k % 10 : Nat) : Int) (D (m / 10 ^ (k + 1) % n)) = D (10 * (m / 10 ^ (k + 1) % n) + m / 10 ^ k % 10) := by
      unfold dqW
      rw [← tz_prefix, List.singleton_append, tz_val (by rw [dig_cons]; exact ⟨by omega, dig_D _⟩)]
      simp only [val]
      rw [val_D]
      rw [show (((m / 10 ^ k % 10 : Nat) : Int) + 10 * ((m / 10 ^ (k + 1) % n : Nat) : Int)).toNat = 10 * (m / 10 ^ (k + 1) % n) + m / 10 ^ k % 10 by omega]
    have hzl : (List.replicate (k + 1) (0 : Int) ++ qL m n (D m).length (k + 1)).length = (D m).length := by rw [List.length_append, List.length_replicate, qL_len]; omega
    have hz0 : (List.replicate (k + 1) (0 : Int) ++ qL m n (D m).length (k + 1)).getD k 0 = 0 := by
      rw [List.getD_eq_getElem?_getD, List.getElem?_append_left (by rw [List.length_replicate]; omega), List.getElem?_replicate, if_pos (by omega)]; rfl
    have hC : dqC (k : Int) (D n) (List.replicate (k + 1) 0 ++ qL m n (D m).length (k + 1)) (D (10 * (m / 10 ^ (k + 1) % n) + m / 10 ^ k % 10)) = true := by
      unfold dqC
      rw [isD_D, isD_D, val_D, val_D, nI_eq, hzl, show ((k : Int)).toNat = k from rfl, hz0, decide_eq_true (show 0 ≤ (k : Int) ∧ (k : Int) < ((D m).length : Int) ∧ (0 : Int) = 0 ∧ (D m).length ≤ 1000000 by omega),
        decide_eq_true (show (D n).length ≤ 999999 ∧ (1 : Int) ≤ (n : Int) ∧ ((10 * (m / 10 ^ (k + 1) % n) + m / 10 ^ k % 10 : Nat) : Int) < 10 * (n : Int) by omega)]; rfl
    rw [hi, decide_eq_true (show 0 ≤ (k : Int) by omega), cond_true, atI_eq hg, hws, fitL_true (by rw [List.length_append, List.length_singleton]; omega), cond_true, decide_eq_true (by rw [List.length_append, List.length_singleton]; omega), cond_true, codesS, cond_true] at h
    unfold dqN at h
    rw [hC, cond_true, wr64 (by omega) (by omega), show ((k : Int)).toNat = k from rfl, val_D, val_D] at h
    -- long division, plainly
    generalize hA : m / 10 ^ k = A at *
    have hmod := Nat.div_add_mod (A / 10) n
    have key : A = n * (10 * (A / 10 / n)) + (10 * (A / 10 % n) + A % 10) := by
      have e1 : n * (10 * (A / 10 / n)) = 10 * (n * (A / 10 / n)) := by rw [← Nat.mul_assoc, Nat.mul_comm n 10, Nat.mul_assoc]
      omega
    have hq : (10 * (m / 10 ^ (k + 1) % n) + A % 10) / n = A / n % 10 := by
      have h1 : A / n = 10 * (A / 10 / n) + (10 * (A / 10 % n) + A % 10) / n := by
        rw [key]
        conv => lhs; rw [Nat.mul_add_div (by omega)]
        rw [← key]
      have h2 : (10 * (A / 10 % n) + A % 10) / n < 10 := (Nat.div_lt_iff_lt_mul (by omega)).2 (by rw [← hB]; omega)
      rw [hB, h1, Nat.mul_add_mod, Nat.mod_eq_of_lt h2]
    have hm' : (10 * (m / 10 ^ (k + 1) % n) + A % 10) % n = A % n := by
      rw [hB]
      conv => rhs; rw [key]
      rw [Nat.mul_add_mod]
    have hset : (List.replicate (k + 1) (0 : Int) ++ qL m n (D m).length (k + 1)).set k ((10 * (m / 10 ^ (k + 1) % n) + A % 10 : Nat) / (n : Int)) = List.replicate k 0 ++ qL m n (D m).length k := by
      rw [show ((10 * (m / 10 ^ (k + 1) % n) + A % 10 : Nat) : Int) / (n : Int) = (((10 * (m / 10 ^ (k + 1) % n) + A % 10) / n : Nat) : Int) from rfl, hq]
      rw [qL_step (show k < (D m).length by omega), hA, List.replicate_succ', List.append_assoc, List.set_append_right _ _ (by rw [List.length_replicate]; exact Nat.le_refl _), List.length_replicate, Nat.sub_self]
      rfl
    have hrest : DD (((10 * (m / 10 ^ (k + 1) % n) + A % 10 : Nat) : Int) % (n : Int)) = D (A % n) := by
      rw [show ((10 * (m / 10 ^ (k + 1) % n) + A % 10 : Nat) : Int) % (n : Int) = (((10 * (m / 10 ^ (k + 1) % n) + A % 10) % n : Nat) : Int) from rfl, hm']
      rfl
    rw [hset, hrest] at h
    rw [hi]
    refine ⟨_, _, _, h, codes0, .inl ⟨rfl, k, ?_, by omega, by omega, rfl⟩⟩
    rw [hA]
end Go.Proofs.YtnbfnoomhlamnaaGreat.N2

/- Chapter 2, the reference: div's contract. -/
namespace Go.Proofs.YtnbfnoomhlamnaaGreat.N2
open Go Go.Eng
def quoF (xs ys : List Int) : List Int := qL (val xs).toNat (val ys).toNat xs.length 0
def quoD (xs ys : List Int) : List Int := DD (val xs / val ys)
def remD (xs ys : List Int) : List Int := DD (val xs % val ys)
def dvC (xs ys : List Int) : Bool := isD xs && (isD ys && decide (xs.length ≤ 999999 ∧ ys.length ≤ 999999 ∧ 1 ≤ val ys))
noncomputable def dqTree1 (n1 n2 : Bool) : List PV → Fin
  | [.i i, .l xs, .l ys, .l zs, .l ws] => .br (decide (i = nI xs - 1 ∧ ws.length = 0) && (pB (zs = List.replicate xs.length 0) && dvC xs ys)) (.leaf (.exit 0) ((dqX n1 n2).at [.l xs, .l ys, .l (quoF xs ys), .l (remD xs ys)])) .no
  | _ => .no
noncomputable def dqL (n1 n2 : Bool) : Loops := sums (fun n => match n with | 4 => some (lsumF 2 (dqT n1 n2) dqLp1 (dqTree1 n1 n2)) | _ => none)
theorem dvC_eq {xs ys : List Int} (h : dvC xs ys = true) : ∃ m n : Nat, xs = D m ∧ ys = D n ∧ (D m).length ≤ 999999 ∧ (D n).length ≤ 999999 ∧ 1 ≤ n := by
  simp only [dvC, Bool.and_eq_true, decide_eq_true_eq] at h
  obtain ⟨hx, hy, h1, h2, h3⟩ := h
  obtain ⟨m, rfl⟩ := isD_eq hx
  obtain ⟨n, rfl⟩ := isD_eq hy
  rw [val_D] at h3
  exact ⟨m, n, rfl, rfl, h1, h2, by omega⟩
theorem dqL_ok (n1 n2 : Bool) : loopsOk Tryz.prog (dqL n1 n2) := by
  intro n g hg
  simp only [dqL, sums] at hg
  split at hg
  · cases hg
    refine lsumF_ok (by cases n1 <;> cases n2 <;> kernel_rfl) (fun rd ps e1 st1 hq => ?_)
    unfold dqTree1 at hq
    split at hq
    · rename_i i xs ys zs ws
      simp only [Fin.pick] at hq
      cases hc : (decide (i = nI xs - 1 ∧ ws.length = 0) && (pB (zs = List.replicate xs.length 0) && dvC xs ys)) with
      | false => rw [hc] at hq; cases hq
      | true =>
        rw [hc, cond_true] at hq
        cases hq
        simp only [Bool.and_eq_true, decide_eq_true_eq, pB_iff] at hc
        obtain ⟨⟨rfl, hw⟩, rfl, hC⟩ := hc
        have hw := List.eq_nil_of_length_eq_zero hw
        subst hw
        obtain ⟨m, n, rfl, rfl, h1, h2, h3⟩ := dvC_eq hC
        have := dq_loop1 n1 n2 rd m n h3 h2 h1 (D m).length (Nat.le_refl _)
        have h0 : m / 10 ^ (D m).length % n = 0 := by rw [Nat.div_eq_of_lt (D_lt_pow m), Nat.zero_mod]
        rw [qL_end, List.append_nil, h0, D_zero] at this
        unfold quoF remD
        rw [val_D, val_D, nI_eq]
        exact this
    · cases hq
  · cases hg
theorem div_eval52 (n1 n2 : Bool) (xs ys : List Int) : evalFn Tryz.prog (orcD (hTabD D0) plainL) (dqL n1 n2) 200 62 Tryz.f62 [.gs 0, .gs 1] [.rs n1 1 (.ints .i64 xs), .rs n2 1 (.ints .i64 ys)] keepB =
    bif decide (0 ≤ nI xs ∧ nI xs ≤ nI xs ∧ nI xs * 9 ≤ 140737488355328) then cond (codesB [(dqLp1, dqLp1)]) (bif decide (wr .i64 (nI xs - 1) = nI xs - 1 ∧ 0 = 0) && (pB (List.replicate (nI xs).toNat (0 : Int) = List.replicate xs.length 0) && dvC xs ys) then
      bif decide ((quoF xs ys).length ≤ 9223372036854775807) then some (.tuple [.gs 4, .gs 3], [.rs n1 1 (.ints .i64 xs), .rs n2 1 (.ints .i64 ys), .dead, .grow false 3 1 (.ints .i64 (remD xs ys)), .grow true 3 1 (.ints .i64 (List.take (tz (quoF xs ys)).length (quoF xs ys)))]) else none else none) none else none := by cases n1 <;> cases n2 <;> kernel_rfl
theorem div52_fn (n1 n2 : Bool) {xs ys : List Int} (h : dvC xs ys = true) : FnOK Tryz.prog 62 [.gs 0, .gs 1] [.rs n1 1 (.ints .i64 xs), .rs n2 1 (.ints .i64 ys)] (.tuple [.gs 4, .gs 3])
    ([.rs n1 1 (.ints .i64 xs), .rs n2 1 (.ints .i64 ys)] ++ [.dead, .grow false 3 1 (.ints .i64 (remD xs ys)), .grow true 3 1 (.ints .i64 (quoD xs ys))]) := by
  have he := div_eval52 n1 n2 xs ys
  obtain ⟨m, n, rfl, rfl, h1, h2, h3⟩ := dvC_eq h
  have hl : (quoF (D m) (D n)).length = (D m).length := by unfold quoF; rw [qL_len, Nat.sub_zero]
  have hz : List.take (tz (quoF (D m) (D n))).length (quoF (D m) (D n)) = quoD (D m) (D n) := by
    rw [← tz_prefix]
    unfold quoF quoD
    rw [tz_val qL_dig, val_D, val_D, qL_val (by rw [show ((m : Int)).toNat = m from rfl]; exact D_lt_pow m) (D m).length 0 (by omega), Nat.pow_zero, Nat.div_one]
    rfl
  rw [nI_eq, decide_eq_true (by omega), cond_true, codesS, cond_true, wr64 (by omega) (by omega), decide_eq_true ⟨rfl, rfl⟩, pB_iff.2 (by rw [show (((D m).length : Nat) : Int).toNat = (D m).length from rfl]), h, hl, decide_eq_true (by omega), hz] at he
  simp only [Bool.and_self, cond_true] at he
  obtain ⟨v1, h1, hk, hok⟩ := evalFn_ok (orcD_ok hTabD_ok plainL_ok) mixed Tryz.func62 (dqL_ok n1 n2) he
  simp only [keepB, Option.some.injEq, Prod.mk.injEq] at hk
  obtain ⟨rfl, rfl⟩ := hk
  exact hok
end Go.Proofs.YtnbfnoomhlamnaaGreat.N2
