/- Chapter 3: the reference's BelowNat answers as the program's. -/
import Derived.Test.YtnbfnoomhlamnaaGreatRnS
namespace Go.Proofs.YtnbfnoomhlamnaaGreat
open Go Go.Eng
theorem rnRest_is {k : Nat} {s a n0 n1 n2 n3 z : Int} (hs : rightB s = true) (ha : inZ a) (hn : N2.inN n0 n1 n2 n3 = true) (hz : N2.nval n0 n1 n2 n3 = z) :
    rnRest rN k s 2147483646 0 0 0 (N2.w0 a) (N2.w1 a) (N2.w2 a) (N2.w3 a) n0 n1 n2 n3 =
      some (.tuple [.int .i64 (natQ k z (N2.divZ a z) 101 s 0).1, N2.nW (natQ k z (N2.divZ a z) 101 s 0).2, .int .i64 0]) := by
  have hzi : inZ z := hz ▸ N2.nval_range hn
  have hz' : nB.z n0 n1 n2 n3 = z := hz
  have hn' : nB.inn n0 n1 n2 n3 = true := hn
  have ha1 : nB.inn (N2.w0 a) (N2.w1 a) (N2.w2 a) (N2.w3 a) = true := N2.inN_w a
  have ha2 : nB.z (N2.w0 a) (N2.w1 a) (N2.w2 a) (N2.w3 a) = a := N2.nval_id ha
  have hc : codesB [(rnLp, rnLp)] = true := by
    rw [codesB_iff]; intro x hx; simp at hx; rw [hx]
  unfold rnRest NB.ws
  rw [show rN.B = nB from rfl, ha1, hn', ha2, hz', hc, hs, show nB.quo a z = N2.divZ a z from rfl, show nB.inn 0 0 0 0 = true from rfl]
  dsimp only
  rw [inZ_w, z_w (inZ_div ha hzi)]
  rfl
theorem rnGo_step {u k : Nat} {s a n0 n1 n2 n3 z : Int} (ha : inZ a) (hn : N2.inN n0 n1 n2 n3 = true) (hz : N2.nval n0 n1 n2 n3 = z) :
    rnGo rN 2147483646 0 0 0 (u + 1) k s (N2.w0 a) (N2.w1 a) (N2.w2 a) (N2.w3 a) n0 n1 n2 n3 = bif decide (a < z) then rnGo rN 2147483646 0 0 0 u (k + 1) s (N2.w0 (N2.mulZ a 2147483646)) (N2.w1 (N2.mulZ a 2147483646)) (N2.w2 (N2.mulZ a 2147483646)) (N2.w3 (N2.mulZ a 2147483646)) n0 n1 n2 n3
      else rnRest rN k s 2147483646 0 0 0 (N2.w0 a) (N2.w1 a) (N2.w2 a) (N2.w3 a) n0 n1 n2 n3 := by
  have hz' : nB.z n0 n1 n2 n3 = z := hz
  have hn' : nB.inn n0 n1 n2 n3 = true := hn
  have ha1 : nB.inn (N2.w0 a) (N2.w1 a) (N2.w2 a) (N2.w3 a) = true := N2.inN_w a
  have ha2 : nB.z (N2.w0 a) (N2.w1 a) (N2.w2 a) (N2.w3 a) = a := N2.nval_id ha
  rw [rnGo]
  unfold NB.ws
  rw [show rN.B = nB from rfl, ha1, hn', ha2, hz', show nB.inn 2147483646 0 0 0 = true from rfl, show nB.z 2147483646 0 0 0 = 2147483646 from rfl]
  simp only [Bool.and_self, cond_true]
  rw [show decide (nB.cmp a z < 0) = decide (a < z) from cmpI_lt]
  rfl
theorem rnGo_is : ∀ (u k : Nat) (s a n0 n1 n2 n3 z : Int), rightB s = true → inZ a → N2.inN n0 n1 n2 n3 = true → N2.nval n0 n1 n2 n3 = z → (natK u k a z).1 < u + k →
    rnGo rN 2147483646 0 0 0 u k s (N2.w0 a) (N2.w1 a) (N2.w2 a) (N2.w3 a) n0 n1 n2 n3 = rnRest rN (natK u k a z).1 s 2147483646 0 0 0 (N2.w0 (natK u k a z).2) (N2.w1 (natK u k a z).2) (N2.w2 (natK u k a z).2) (N2.w3 (natK u k a z).2) n0 n1 n2 n3
  | 0, k, s, a, n0, n1, n2, n3, z, hs, ha, hn, hz, hk => by simp only [natK] at hk; omega
  | u + 1, k, s, a, n0, n1, n2, n3, z, hs, ha, hn, hz, hk => by
    rw [rnGo_step ha hn hz]
    unfold natK at hk ⊢
    cases hd : decide (a < z) with
    | true =>
      rw [hd, cond_true] at hk
      simp only [cond_true]
      exact rnGo_is u (k + 1) s _ n0 n1 n2 n3 z hs (inZ_mul ha (by unfold inZ; omega)) hn hz (by omega)
    | false => simp only [cond_false]
/-- A quotient below the quotient of the greatest number: a number below the greatest multiple. -/
theorem quo_lt {v a z : Int} (_ : inZ v) (ha : inZ a) (hz : 1 ≤ z) : decide (N2.divZ v z < N2.divZ a z) = decide (v < N2.subZ a (N2.remZ a z)) := by
  have h1 := remZ_lt ha.1 hz
  have e1 : N2.divZ v z = v / z := by unfold N2.divZ; rw [decide_eq_false (by omega), cond_false]
  have e2 : N2.divZ a z = a / z := by unfold N2.divZ; rw [decide_eq_false (by omega), cond_false]
  have e4 : a % z ≤ a := by
    have := Int.mul_ediv_add_emod a z
    have h5 : 0 ≤ z * (a / z) := Int.mul_nonneg (by omega) (Int.ediv_nonneg ha.1 (by omega))
    omega
  have e3 : N2.subZ a (N2.remZ a z) = a - a % z := by
    unfold N2.subZ
    rw [decide_eq_false (by omega), cond_false, h1.2.2]
  rw [e1, e2, e3]
  have d2 := Int.mul_ediv_add_emod a z
  have key : v / z < a / z ↔ v < a - a % z := by
    rw [Int.ediv_lt_iff_lt_mul (by omega), Int.mul_comm]
    omega
  by_cases h : v / z < a / z
  · rw [decide_eq_true h, decide_eq_true (key.1 h)]
  · rw [decide_eq_false h, decide_eq_false (fun q => h (key.2 q))]
theorem natQ_is {k : Nat} {z a : Int} (ha : inZ a) (hz : 1 ≤ z) : ∀ (u : Nat) (s r : Int), rightB s = true →
    natQ k z (N2.divZ a z) (u + 1) s r = ((natR k (N2.subZ a (N2.remZ a z)) u (drawN k s 0 1).1 (drawN k s 0 1).2).1, N2.remZ (natR k (N2.subZ a (N2.remZ a z)) u (drawN k s 0 1).1 (drawN k s 0 1).2).2 z)
  | 0, s, r, hs => by
    unfold natQ natQ natR
    cases decide (N2.divZ (drawN k s 0 1).2 z < N2.divZ a z) <;> rfl
  | u + 1, s, r, hs => by
    have hd := drawN_in k s 0 1 hs (by unfold inZ; omega) (by unfold inZ; omega)
    rw [natQ, quo_lt hd.2 ha hz, natR]
    cases decide ((drawN k s 0 1).2 < N2.subZ a (N2.remZ a z)) with
    | true => rfl
    | false => simp only [cond_false]; exact natQ_is ha hz u _ _ hd.1
theorem rnat_pure {s n0 n1 n2 n3 : Int} (h : N2.inN n0 n1 n2 n3 = true) : FnPure Tryz.prog 24 [.int .i64 s, .agg [.int .u32 n0, .int .u32 n1, .int .u32 n2, .int .u32 n3]]
    (.tuple [.int .i64 (natS s (N2.nval n0 n1 n2 n3)), N2.nW (natV s (N2.nval n0 n1 n2 n3)), .int .i64 (errI (!natBz s (N2.nval n0 n1 n2 n3)))]) := by
  have hcm : decide (0 < rN.B.cmp (rN.B.z n0 n1 n2 n3) (rN.B.z 0 0 0 16777216)) = decide (1329227995784915872903807060280344576 < N2.nval n0 n1 n2 n3) := by
    show decide (0 < N2.cmpI (N2.nval n0 n1 n2 n3) 1329227995784915872903807060280344576) = _
    unfold N2.cmpI
    by_cases q : N2.nval n0 n1 n2 n3 < 1329227995784915872903807060280344576
    · rw [decide_eq_true q, decide_eq_false (show ¬ 1329227995784915872903807060280344576 < N2.nval n0 n1 n2 n3 by omega)]; rfl
    · rw [decide_eq_false q]
      by_cases q2 : 1329227995784915872903807060280344576 < N2.nval n0 n1 n2 n3
      · rw [decide_eq_true q2]; rfl
      · rw [decide_eq_false q2]; rfl
  cases hb : natBz s (N2.nval n0 n1 n2 n3) with
  | true =>
    refine fnPure_of_eval (N := 4) orcRn_ok mixed Tryz.func24 (by kernel_rfl) (rnLs_ok true) ?_ rfl rfl
    rw [rn_bad, hcm, zeroB_eq h, show rN.B.inn n0 n1 n2 n3 = true from h, show rN.B.inn 0 0 0 16777216 = true from rfl]
    have hb' := hb
    unfold natBz at hb'
    unfold natS natV
    rw [hb]
    cases h1 : !rightB s with
    | true => rfl
    | false =>
      cases h2 : decide (N2.nval n0 n1 n2 n3 = 0) with
      | true => rfl
      | false =>
        rw [h1, h2, Bool.false_or, Bool.false_or] at hb'
        rw [hb']; rfl
  | false =>
    refine fnPure_of_eval (N := 4) orcRn_ok mixed Tryz.func24 (by kernel_rfl) (rnLs_ok false) ?_ rfl rfl
    rw [rn_eval, hcm]
    have hb' := hb
    simp only [natBz, Bool.or_eq_false_iff, Bool.not_eq_false', decide_eq_false_iff_not] at hb'
    obtain ⟨hs, h0, h1⟩ := hb'
    have hr := N2.nval_range h
    have hk := natK_ok (z := N2.nval n0 n1 n2 n3) (by omega) (by omega)
    have hB : inZ 2147483646 := by unfold inZ; omega
    have hG := rnGo_is 4 1 s 2147483646 n0 n1 n2 n3 _ hs hB h rfl (by omega)
    rw [rnRest_is hs hk.2.2.1 h rfl, natQ_is hk.2.2.1 (by omega) 100 s 0 hs] at hG
    rw [hs, zeroB_eq h, decide_eq_false h0, show rN.B.inn n0 n1 n2 n3 = true from h, show rN.B.inn 0 0 0 16777216 = true from rfl, decide_eq_false h1, show rN.ofz 2147483646 = 2147483646 from rfl, show rN.fit 2147483646 = true from rfl]
    unfold natS natV natD natM
    rw [hb]
    exact hG
end Go.Proofs.YtnbfnoomhlamnaaGreat
