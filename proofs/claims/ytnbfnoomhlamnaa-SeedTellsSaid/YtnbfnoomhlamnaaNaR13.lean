/- Chapter 2, the reference: div's contract. -/
import Derived.Test.YtnbfnoomhlamnaaNaR12
namespace Go.Proofs.Ytnbfnoomhlamnaa.N2
open Go Go.Eng
def quoF (xs ys : List Int) : List Int := qL (val xs).toNat (val ys).toNat xs.length 0
def quoD (xs ys : List Int) : List Int := DD (val xs / val ys)
def remD (xs ys : List Int) : List Int := DD (val xs % val ys)
def dvC (xs ys : List Int) : Bool := isD xs && (isD ys && decide (xs.length ≤ 999999 ∧ ys.length ≤ 999999 ∧ 1 ≤ val ys))
noncomputable def dqTree1 (n1 n2 : Bool) : List PV → Fin
  | [.i i, .l xs, .l ys, .l zs, .l ws] => .br (decide (i = nI xs - 1 ∧ ws.length = 0) && (pB (zs = List.replicate xs.length 0) && dvC xs ys)) (.leaf (.exit 0) ((dqX n1 n2).at [.l xs, .l ys, .l (quoF xs ys), .l (remD xs ys)])) .no
  | _ => .no
noncomputable def dqL (n1 n2 : Bool) : Loops := sums (fun n => match n with | 4 => some (lsumF 2 (dqT n1 n2) dqLp1 (dqTree1 n1 n2)) | _ => none)
theorem dvC_eq {xs ys : List Int} (h : dvC xs ys = true) : ∃ m n : Nat, xs = D m ∧ ys = D n ∧ (D m).length ≤ 999999 ∧ (D n).length ≤ 999999 ∧ 1 ≤ n := by
  simp only [dvC, Bool.and_eq_true, decide_eq_true_eq] at h
  obtain ⟨hx, hy, h1, h2, h3⟩ := h
  obtain ⟨m, rfl⟩ := isD_eq hx
  obtain ⟨n, rfl⟩ := isD_eq hy
  rw [val_D] at h3
  exact ⟨m, n, rfl, rfl, h1, h2, by omega⟩
theorem dqL_ok (n1 n2 : Bool) : loopsOk Try.prog (dqL n1 n2) := by
  intro n g hg
  simp only [dqL, sums] at hg
  split at hg
  · cases hg
    refine lsumF_ok (by cases n1 <;> cases n2 <;> kernel_rfl) (fun rd ps e1 st1 hq => ?_)
    unfold dqTree1 at hq
    split at hq
    · rename_i i xs ys zs ws
      simp only [Fin.pick] at hq
      cases hc : (decide (i = nI xs - 1 ∧ ws.length = 0) && (pB (zs = List.replicate xs.length 0) && dvC xs ys)) with
      | false => rw [hc] at hq; cases hq
      | true =>
        rw [hc, cond_true] at hq
        cases hq
        simp only [Bool.and_eq_true, decide_eq_true_eq, pB_iff] at hc
        obtain ⟨⟨rfl, hw⟩, rfl, hC⟩ := hc
        have hw := List.eq_nil_of_length_eq_zero hw
        subst hw
        obtain ⟨m, n, rfl, rfl, h1, h2, h3⟩ := dvC_eq hC
        have := dq_loop1 n1 n2 rd m n h3 h2 h1 (D m).length (Nat.le_refl _)
        have h0 : m / 10 ^ (D m).length % n = 0 := by rw [Nat.div_eq_of_lt (D_lt_pow m), Nat.zero_mod]
        rw [qL_end, List.append_nil, h0, D_zero] at this
        unfold quoF remD
        rw [val_D, val_D, nI_eq]
        exact this
    · cases hq
  · cases hg
theorem div_eval52 (n1 n2 : Bool) (xs ys : List Int) : evalFn Try.prog (orcD (hTabD D0) plainL) (dqL n1 n2) 200 89 Try.f89 [.gs 0, .gs 1] [.rs n1 1 (.ints .i64 xs), .rs n2 1 (.ints .i64 ys)] keepB =
    bif decide (0 ≤ nI xs ∧ nI xs ≤ nI xs ∧ nI xs * 9 ≤ 140737488355328) then cond (codesB [(dqLp1, dqLp1)]) (bif decide (wr .i64 (nI xs - 1) = nI xs - 1 ∧ 0 = 0) && (pB (List.replicate (nI xs).toNat (0 : Int) = List.replicate xs.length 0) && dvC xs ys) then
      bif decide ((quoF xs ys).length ≤ 9223372036854775807) then some (.tuple [.gs 4, .gs 3], [.rs n1 1 (.ints .i64 xs), .rs n2 1 (.ints .i64 ys), .dead, .grow false 3 1 (.ints .i64 (remD xs ys)), .grow true 3 1 (.ints .i64 (List.take (tz (quoF xs ys)).length (quoF xs ys)))]) else none else none) none else none := by cases n1 <;> cases n2 <;> kernel_rfl
theorem div52_fn (n1 n2 : Bool) {xs ys : List Int} (h : dvC xs ys = true) : FnOK Try.prog 89 [.gs 0, .gs 1] [.rs n1 1 (.ints .i64 xs), .rs n2 1 (.ints .i64 ys)] (.tuple [.gs 4, .gs 3])
    ([.rs n1 1 (.ints .i64 xs), .rs n2 1 (.ints .i64 ys)] ++ [.dead, .grow false 3 1 (.ints .i64 (remD xs ys)), .grow true 3 1 (.ints .i64 (quoD xs ys))]) := by
  have he := div_eval52 n1 n2 xs ys
  obtain ⟨m, n, rfl, rfl, h1, h2, h3⟩ := dvC_eq h
  have hl : (quoF (D m) (D n)).length = (D m).length := by unfold quoF; rw [qL_len, Nat.sub_zero]
  have hz : List.take (tz (quoF (D m) (D n))).length (quoF (D m) (D n)) = quoD (D m) (D n) := by
    rw [← tz_prefix]
    unfold quoF quoD
    rw [tz_val qL_dig, val_D, val_D, qL_val (by rw [show ((m : Int)).toNat = m from rfl]; exact D_lt_pow m) (D m).length 0 (by omega), Nat.pow_zero, Nat.div_one]
    rfl
  rw [nI_eq, decide_eq_true (by omega), cond_true, codesS, cond_true, wr64 (by omega) (by omega), decide_eq_true ⟨rfl, rfl⟩, pB_iff.2 (by rw [show (((D m).length : Nat) : Int).toNat = (D m).length from rfl]), h, hl, decide_eq_true (by omega), hz] at he
  simp only [Bool.and_self, cond_true] at he
  obtain ⟨v1, h1, hk, hok⟩ := evalFn_ok (orcD_ok hTabD_ok plainL_ok) mixed Try.func89 (dqL_ok n1 n2) he
  simp only [keepB, Option.some.injEq, Prod.mk.injEq] at hk
  obtain ⟨rfl, rfl⟩ := hk
  exact hok
end Go.Proofs.Ytnbfnoomhlamnaa.N2
