/- Chapter 3: SeedShuffled's first loop. -/
import Derived.Test.YtnbfnoomhlamnaaLShT
namespace Go.Proofs.Ytnbfnoomhlamnaa
open Go Go.Eng
def upto (n : Nat) : List Int := (List.range n).map Int.ofNat
theorem upto_succ (n : Nat) : upto (n + 1) = upto n ++ [(n : Int)] := by simp [upto, List.range_succ]
theorem upto_len (n : Nat) : (upto n).length = n := by simp [upto]
noncomputable abbrev lsO : Oracle := orcH tab4 plainL
theorem ls_round1 (rd : Option Nat) (l n : Nat) (r : Bool) (s a e m i : Int) (xs out ys : List Int) : roundT Try.prog lsO noLoops 100 1 rd 6 lsLp1 lsT1 lsT1 (lsP l n r s a e m i xs out [.l ys]) =
    bif decide (i < m) then bif decide ((ys ++ [i]).length * 9 ≤ 70368744177664) then some (.normal, lsP l n r s a e m (wr .i64 (i + 1)) xs out [.l (ys ++ [i])], []) else none
    else some (.exit 0, lsP l n r s a e m i xs out [.l ys], []) := by kernel_rfl
theorem ls_first1 (rd : Option Nat) (l n : Nat) (r : Bool) (s a e m i : Int) (xs out : List Int) : roundG Try.prog lsO noLoops 100 1 rd 6 lsLp1 lsT0 lsT1 lsT0 (lsP l n r s a e m i xs out []) =
    bif decide (i < m) then some (.normal, lsP l n r s a e m (wr .i64 (i + 1)) xs out [.l [i]], [])
    else some (.exit 0, lsP l n r s a e m i xs out [], []) := by kernel_rfl
theorem lsO_ok : OracleOk Try.prog lsO := orcH_ok tab4_ok plainL_ok
theorem ls_loop1 (rd : Option Nat) (l n : Nat) (r : Bool) (s a e : Int) (m : Nat) (xs out : List Int) (hm : m ≤ 60) : ∀ i : Nat, i ≤ m →
    ∃ k, SimL Try.prog 1 rd lsLp1 k (lsT1.at (lsP l n r s a e m i xs out [.l (upto i)])) (.exit 0) (lsT1.at (lsP l n r s a e m m xs out [.l (upto m)])) := by
  refine loop_of_rounds_n (C := lsO) (L := noLoops) (N := 100) (me := 6) (T := lsT1) (T' := lsT1) lsO_ok mixed noLoops_ok (by kernel_rfl) (by kernel_rfl) (X := Nat)
    (fun i => lsP l n r s a e m i xs out [.l (upto i)]) (fun i => i ≤ m) (fun i => m - i) (fun _ => (.exit 0, lsP l n r s a e m m xs out [.l (upto m)])) ?_
  intro i hi
  have h := ls_round1 rd l n r s a e m i xs out (upto i)
  by_cases hlt : i < m
  · have d1 : decide ((i : Int) < (m : Int)) = true := decide_eq_true (by omega)
    have d2 : decide ((upto i ++ [(i : Int)]).length * 9 ≤ 70368744177664) = true := decide_eq_true (by rw [List.length_append, upto_len]; simp; omega)
    have e1 : wr .i64 ((i : Int) + 1) = ((i + 1 : Nat) : Int) := by rw [wr64 (by omega) (by omega)]; omega
    rw [d1, d2, e1, ← upto_succ] at h
    exact ⟨_, _, _, h, codes0, .inl ⟨rfl, i + 1, rfl, by omega, by omega, rfl⟩⟩
  · have : i = m := by omega
    subst this
    have d1 : decide ((i : Int) < (i : Int)) = false := decide_eq_false (by omega)
    rw [d1, cond_false] at h
    exact ⟨_, _, _, h, codes0, .inr ⟨by simp, rfl⟩⟩
def lsTree1 : List PV → Fin
  | [.n l, .n n, .b r, .i s, .i a, .i e, .i m, .i i, .l xs, .l out] => .br (decide (m = (n : Int) ∧ i = 0 ∧ n ≤ 60))
      (.br (Nat.beq n 0) (.leaf (.exit 0) (lsT0.at (lsP l 0 r s a e 0 0 xs out []))) (.leaf (.exit 0) (lsT1.at (lsP l n r s a e n n xs out [.l (upto n)])))) .no
  | _ => .no
noncomputable def lsSum1 : LoopSum := lsumE 1 lsT0 lsLp1 lsTree1 unroll
theorem lsSum1_ok : LoopOk Try.prog lsSum1 := by
  refine lsumE_ok (by kernel_rfl) (fun rd ps e1 s1 h => ?_) unroll_ok
  unfold lsTree1 at h
  split at h
  · rename_i l n r s a e m i xs out
    simp only [Fin.pick] at h
    cases hc : decide (m = (n : Int) ∧ i = 0 ∧ n ≤ 60) with
    | false => rw [hc] at h; cases h
    | true =>
      rw [hc, cond_true] at h
      simp only [decide_eq_true_eq] at hc
      obtain ⟨rfl, rfl, hn⟩ := hc
      have hr := ls_first1 rd l n r s a e n 0 xs out
      cases n with
      | zero =>
        cases h
        rw [show decide ((0 : Int) < ((0 : Nat) : Int)) = false from rfl, cond_false] at hr
        exact loop_leave (T2 := lsT1) (T' := lsT0) lsO_ok mixed noLoops_ok (by kernel_rfl) (by kernel_rfl) hr codes0 (by simp)
      | succ n =>
        rw [show decide ((0 : Int) < ((n + 1 : Nat) : Int)) = true from decide_eq_true (by omega), cond_true] at hr
        rw [show Nat.beq (n + 1) 0 = false from rfl, cond_false] at h
        cases h
        obtain ⟨k, hk⟩ := ls_loop1 rd l (n + 1) r s a e (n + 1) xs out hn 1 (by omega)
        exact loop_peel (T2 := lsT1) (T' := lsT0) lsO_ok mixed noLoops_ok (by kernel_rfl) (by kernel_rfl) hr codes0 hk
  · cases h
end Go.Proofs.Ytnbfnoomhlamnaa
