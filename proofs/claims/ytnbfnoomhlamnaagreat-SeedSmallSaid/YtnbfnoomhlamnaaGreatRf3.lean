/- Chapter 3: the reference's Below answers as the program's. -/
import Derived.Test.YtnbfnoomhlamnaaGreatRf2
namespace Go.Proofs.YtnbfnoomhlamnaaGreat
open Go Go.Eng
theorem rb_round (rd : Option Nat) (s n v i : Int) : roundT Tryz.prog (orc tabR2 plainL) noLoops 100 0 rd 22 rbLp rbT rbX [.i s, .i n, .i v, .i i] =
    bif decide (i < 101) then bif decide (n = 0) then none else bif decide (n = 0) then none else
      bif decide (wr .i64 ((nextV s).tdiv n) < wr .i64 ((2147483646 : Int).tdiv n)) then some (.exit 0, [.i (nextS s), .i n, .i (nextV s)], []) else some (.normal, [.i (nextS s), .i n, .i (nextV s), .i (wr .i64 (i + 1))], [])
    else some (.exit 0, [.i s, .i n, .i v], []) := by kernel_rfl
def rbR (n : Int) : Nat → Int → Int → Int × Int
  | 0, v, s => (v, s)
  | u + 1, _, s => bif decide (wr .i64 ((nextV s).tdiv n) < wr .i64 ((2147483646 : Int).tdiv n)) then (nextV s, nextS s) else rbR n u (nextV s) (nextS s)
theorem rb_loop (rd : Option Nat) (n : Int) (hn : n ≠ 0) : ∀ x : Nat × Int × Int, x.1 ≤ 101 →
    SimC Tryz.prog 0 rd (.loop rbLp) (rbT.at [.i x.2.2, .i n, .i x.2.1, .i (101 - x.1)]) (.exit 0) (rbX.at [.i (rbR n x.1 x.2.1 x.2.2).2, .i n, .i (rbR n x.1 x.2.1 x.2.2).1]) := by
  refine loop_of_rounds (C := orc tabR2 plainL) (L := noLoops) (N := 100) (me := 22) (T := rbT) (T' := rbX) (rorc_ok tabR2_ok) mixed (noLoops_ok) (by kernel_rfl) (by kernel_rfl) (X := Nat × Int × Int)
    (fun x => [.i x.2.2, .i n, .i x.2.1, .i (101 - x.1)]) (fun x => x.1 ≤ 101) (fun x => x.1) (fun x => (.exit 0, [.i (rbR n x.1 x.2.1 x.2.2).2, .i n, .i (rbR n x.1 x.2.1 x.2.2).1])) ?_
  rintro ⟨u, v, s⟩ hx
  dsimp only at hx ⊢
  have h := rb_round rd s n v (101 - u)
  rw [decide_eq_false hn, cond_false, cond_false] at h
  cases u with
  | zero =>
    rw [show decide ((101 : Int) - ((0 : Nat) : Int) < 101) = false from rfl, cond_false] at h
    exact ⟨_, _, _, h, codesN, .inr ⟨by simp, rfl⟩⟩
  | succ u =>
    rw [decide_eq_true (show (101 : Int) - ((u + 1 : Nat) : Int) < 101 by omega), cond_true] at h
    cases hd : decide (wr .i64 ((nextV s).tdiv n) < wr .i64 ((2147483646 : Int).tdiv n)) with
    | true =>
      rw [hd, cond_true] at h
      refine ⟨_, _, _, h, codesN, .inr ⟨by simp, ?_⟩⟩
      simp only [rbR, hd, cond_true]
    | false =>
      rw [hd, cond_false] at h
      rw [show wr .i64 ((101 : Int) - ((u + 1 : Nat) : Int) + 1) = 101 - (u : Int) by rw [wr64 (by omega) (by omega)]; omega] at h
      refine ⟨_, _, _, h, codesN, .inl ⟨rfl, (u, nextV s, nextS s), rfl, by dsimp only; omega, by dsimp only; omega, ?_⟩⟩
      simp only [rbR, hd, cond_false]
def rbFin : List PV → Fin
  | [.i s, .i n, .i v, .i i] => .br (!decide (n = 0) && decide (i = 0)) (.leaf (.exit 0) (rbX.at [.i (rbR n 101 v s).2, .i n, .i (rbR n 101 v s).1])) .no
  | _ => .no
noncomputable def rbSum : LoopSum := lsumF 0 rbT rbLp rbFin
theorem rbSum_ok : LoopOk Tryz.prog rbSum := by
  refine lsumF_ok (by kernel_rfl) fun rd ps e s h => ?_
  unfold rbFin at h
  split at h
  · rename_i s n v i
    simp only [Fin.pick] at h
    cases hi : (!decide (n = 0) && decide (i = 0)) with
    | false => rw [hi] at h; cases h
    | true =>
      rw [hi, cond_true] at h
      cases h
      simp only [Bool.and_eq_true, Bool.not_eq_true', decide_eq_false_iff_not, decide_eq_true_eq] at hi
      obtain ⟨h1, rfl⟩ := hi
      exact rb_loop rd n h1 (101, v, s) (Nat.le_refl _)
  · cases h
noncomputable def rbL : Loops := sums (fun n => match n with | 5 => some rbSum | _ => none)
theorem rbL_ok : loopsOk Tryz.prog rbL := by
  intro n g hg
  simp only [rbL, sums] at hg
  split at hg
  · cases hg; exact rbSum_ok
  · cases hg
theorem rb_eval (s n : Int) : evalFn Tryz.prog (orc tabR2 plainL) rbL 100 22 Tryz.f22 [.int .i64 s, .int .i64 n] [] (fun v _ => some v) =
    bif !rightB s then some err3 else bif decide (n < 1) then some err3 else bif decide (2147483646 < n) then some err3 else
      bif codesB [(rbLp, rbLp)] then bif !decide (n = 0) && decide ((0 : Int) = 0) then bif decide (n = 0) then none else some (.tuple [.int .i64 (rbR n 101 0 s).2, .int .i64 ((rbR n 101 0 s).1.tmod n), .int .i64 0]) else none else none := by kernel_rfl
theorem below_div {v n : Int} (hv : 0 ≤ v) (hn : 1 ≤ n) (hv2 : v ≤ 2147483646) (hn2 : n ≤ 2147483646) : decide (wr .i64 (v.tdiv n) < wr .i64 ((2147483646 : Int).tdiv n)) = decide (v < mostI n) := by
  have e1 : v.tdiv n = v / n := Int.tdiv_eq_ediv_of_nonneg hv
  have e2 : (2147483646 : Int).tdiv n = 2147483646 / n := Int.tdiv_eq_ediv_of_nonneg (by omega)
  have e3 : (2147483646 : Int).tmod n = 2147483646 % n := Int.tmod_eq_emod_of_nonneg (by omega)
  have d1 := Int.mul_ediv_add_emod v n
  have d2 := Int.mul_ediv_add_emod 2147483646 n
  have m1 := Int.emod_nonneg v (show n ≠ 0 by omega)
  have m2 := Int.emod_lt_of_pos v (show 0 < n by omega)
  have m3 := Int.emod_nonneg 2147483646 (show n ≠ 0 by omega)
  have m4 := Int.emod_lt_of_pos 2147483646 (show 0 < n by omega)
  have b1 : v / n ≤ v := Int.ediv_le_self _ hv
  have b2 : (2147483646 : Int) / n ≤ 2147483646 := Int.ediv_le_self _ (by omega)
  have b3 : 0 ≤ v / n := Int.ediv_nonneg hv (by omega)
  have b4 : 0 ≤ (2147483646 : Int) / n := Int.ediv_nonneg (by omega) (by omega)
  unfold mostI
  rw [e1, e2, e3, wr64 (x := v / n) (by omega) (by omega), wr64 (x := 2147483646 / n) (by omega) (by omega), wr64 (by omega) (by omega)]
  have key : v / n < 2147483646 / n ↔ v < 2147483646 - 2147483646 % n := by
    rw [Int.ediv_lt_iff_lt_mul (by omega), Int.mul_comm]
    omega
  by_cases h : v / n < 2147483646 / n
  · rw [decide_eq_true h, decide_eq_true (key.1 h)]
  · rw [decide_eq_false h, decide_eq_false (fun q => h (key.2 q))]
theorem rbR_is {n : Int} (h1 : 1 ≤ n) (h2 : n ≤ 2147483646) : ∀ (u : Nat) (v s : Int), rightB s = true → rbR n (u + 1) v s = belowR u (mulP s 48271 - 1) (mulP s 48271) (mostI n)
  | 0, v, s, hs => by
    unfold rbR rbR belowR
    rw [nextS_right hs, nextV_right hs]
    cases decide (wr .i64 ((mulP s 48271 - 1).tdiv n) < wr .i64 ((2147483646 : Int).tdiv n)) <;> rfl
  | u + 1, v, s, hs => by
    have hm := mulP_range s hs
    have hr := right_le hm
    have hr2 := right_le (mulP_range _ hm)
    rw [rbR, nextS_right hs, nextV_right hs, below_div (by omega) h1 (by omega) h2, belowR, rbR_is h1 h2 u _ _ hm, wr64 (by omega) (by omega)]
theorem rbelow_pure (s n : Int) : FnPure Tryz.prog 22 [.int .i64 s, .int .i64 n] (.tuple [.int .i64 (belowS s n), .int .i64 (belowV s n), .int .i64 (errI (!belowB s n))]) := by
  refine fnPure_of_eval (C := orc tabR2 plainL) (N := 100) (rorc_ok tabR2_ok) mixed Tryz.func22 (by kernel_rfl) rbL_ok ?_ rfl rfl
  rw [rb_eval]
  have hc : codesB [(rbLp, rbLp)] = true := by
    rw [codesB_iff]; intro x hx; simp at hx; rw [hx]
  rw [hc]
  have bad : belowB s n = true → some err3 = some (V.tuple [.int .i64 (belowS s n), .int .i64 (belowV s n), .int .i64 (errI (!belowB s n))]) := fun h => by
    simp only [belowS, belowV, h, cond_true, Bool.not_true, errI, cond_false]; rfl
  cases h1 : !rightB s with
  | true => exact bad (by simp [belowB, h1])
  | false =>
    cases h2 : decide (n < 1) with
    | true => exact bad (by simp [belowB, h2])
    | false =>
      cases h3 : decide (2147483646 < n) with
      | true => exact bad (by simp [belowB, h3])
      | false =>
        simp only [decide_eq_false_iff_not] at h2 h3
        simp only [Bool.not_eq_false'] at h1
        have hm := right_le (mulP_range s h1)
        have hb : belowB s n = false := by unfold belowB; rw [h1, decide_eq_false h2, decide_eq_false h3]; rfl
        rw [decide_eq_false (show ¬ n = 0 by omega), rbR_is (by omega) (by omega) 100 _ _ h1]
        unfold belowS belowV drawn
        rw [hb, wr64 (by omega) (by omega)]
        rfl
end Go.Proofs.YtnbfnoomhlamnaaGreat
