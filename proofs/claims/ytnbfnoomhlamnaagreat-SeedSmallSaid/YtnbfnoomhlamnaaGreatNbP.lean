/- Chapter 3: BelowNat: its contract. -/
import Derived.Test.YtnbfnoomhlamnaaGreatNbS
namespace Go.Proofs.YtnbfnoomhlamnaaGreat
open Go Go.Eng
/-- How many values, and their number. -/
def natK : Nat → Nat → Int → Int → Nat × Int
  | 0, k, a, _ => (k, a)
  | u + 1, k, a, z => bif decide (a < z) then natK u (k + 1) (N2.mulZ a 2147483646) z else (k, a)
def natM (z : Int) : Int := N2.subZ (natK 4 1 2147483646 z).2 (N2.remZ (natK 4 1 2147483646 z).2 z)
/-- The state, and what is drawn. -/
def natD (s z : Int) : Int × Int := natR (natK 4 1 2147483646 z).1 (natM z) 100 (drawN (natK 4 1 2147483646 z).1 s 0 1).1 (drawN (natK 4 1 2147483646 z).1 s 0 1).2
def natBz (s z : Int) : Bool := !rightB s || (decide (z = 0) || decide (1329227995784915872903807060280344576 < z))
def natS (s z : Int) : Int := bif natBz s z then 0 else (natD s z).1
def natV (s z : Int) : Int := bif natBz s z then 0 else N2.remZ (natD s z).2 z
theorem inZ_w (z : Int) : nB.inn (nB.w0 z) (nB.w1 z) (nB.w2 z) (nB.w3 z) = true := N2.inN_w z
theorem z_w {z : Int} (h : inZ z) : nB.z (nB.w0 z) (nB.w1 z) (nB.w2 z) (nB.w3 z) = z := N2.nval_id h
theorem inZ_rem {x y : Int} (_ : inZ x) (hy : inZ y) : inZ (N2.remZ x y) := by
  unfold N2.remZ
  by_cases h : y = 0
  · rw [decide_eq_true h, cond_true]; unfold inZ; omega
  · rw [decide_eq_false h, cond_false]
    unfold inZ at *
    have h1 := Int.emod_nonneg x h
    have h2 := Int.emod_lt_of_pos x (show 0 < y by omega)
    omega
theorem inZ_sub {x y : Int} (hx : inZ x) (hy : inZ y) : inZ (N2.subZ x y) := by
  unfold N2.subZ
  unfold inZ at *
  by_cases h : x < y
  · rw [decide_eq_true h, cond_true]; omega
  · rw [decide_eq_false h, cond_false]; omega
theorem nbRest_is {k : Nat} {s a n0 n1 n2 n3 z : Int} (hs : rightB s = true) (ha : inZ a) (hn : N2.inN n0 n1 n2 n3 = true) (hz : N2.nval n0 n1 n2 n3 = z) :
    nbRest nB k s (N2.w0 a) (N2.w1 a) (N2.w2 a) (N2.w3 a) n0 n1 n2 n3 =
      some (.tuple [.int .i64 (natR k (N2.subZ a (N2.remZ a z)) 100 (drawN k s 0 1).1 (drawN k s 0 1).2).1, N2.nW (N2.remZ (natR k (N2.subZ a (N2.remZ a z)) 100 (drawN k s 0 1).1 (drawN k s 0 1).2).2 z), .int .i64 0]) := by
  have hzi : inZ z := hz ▸ N2.nval_range hn
  have hr := inZ_rem ha hzi
  have hm := inZ_sub ha hr
  have h0 : inZ 0 := by unfold inZ; omega
  have h1 : inZ 1 := by unfold inZ; omega
  have hd := drawN_in k s 0 1 hs h0 h1
  have hR := natR_in k (N2.subZ a (N2.remZ a z)) 100 _ _ hd.1 hd.2
  have hz' : nB.z n0 n1 n2 n3 = z := hz
  have hn' : nB.inn n0 n1 n2 n3 = true := hn
  have ha1 : nB.inn (N2.w0 a) (N2.w1 a) (N2.w2 a) (N2.w3 a) = true := N2.inN_w a
  have ha2 : nB.z (N2.w0 a) (N2.w1 a) (N2.w2 a) (N2.w3 a) = a := N2.nval_id ha
  unfold nbRest NB.ws
  rw [ha1, hn', ha2, hz', Bool.and_self, cond_true]
  rw [show nB.rem a z = N2.remZ a z from rfl]
  dsimp only
  rw [inZ_w, z_w hr, Bool.and_self, cond_true, show nB.sub a (N2.remZ a z) = N2.subZ a (N2.remZ a z) from rfl]
  have hD := fun (R : Type) (K : Int → Int → Int → Int → Int → Option R) => nbD_is (K := K) k s 0 1 hs h0 h1
  rw [show N2.w0 0 = 0 from rfl, show N2.w1 0 = 0 from rfl, show N2.w2 0 = 0 from rfl, show N2.w3 0 = 0 from rfl, show N2.w0 1 = 1 from rfl, show N2.w1 1 = 0 from rfl, show N2.w2 1 = 0 from rfl, show N2.w3 1 = 0 from rfl] at hD
  rw [hD]
  have hc : codesB [(nbLp, nbLp)] = true := by
    rw [codesB_iff]; intro x hx; simp at hx; rw [hx]
  have hv1 : nB.inn (N2.w0 (drawN k s 0 1).2) (N2.w1 (drawN k s 0 1).2) (N2.w2 (drawN k s 0 1).2) (N2.w3 (drawN k s 0 1).2) = true := N2.inN_w _
  have hv2 : nB.z (N2.w0 (drawN k s 0 1).2) (N2.w1 (drawN k s 0 1).2) (N2.w2 (drawN k s 0 1).2) (N2.w3 (drawN k s 0 1).2) = (drawN k s 0 1).2 := N2.nval_id hd.2
  rw [hc, hd.1, inZ_w, z_w hm, hv1, hv2]
  simp only [Bool.and_self, cond_true]
  rw [show nB.lv k (drawN k s 0 1).1 (N2.subZ a (N2.remZ a z)) (drawN k s 0 1).2 = (natR k (N2.subZ a (N2.remZ a z)) 100 (drawN k s 0 1).1 (drawN k s 0 1).2).2 from rfl, inZ_w, z_w hR.2, Bool.and_self, cond_true]
  rfl
theorem nbGo_step {u k : Nat} {s a n0 n1 n2 n3 z : Int} (ha : inZ a) (hn : N2.inN n0 n1 n2 n3 = true) (hz : N2.nval n0 n1 n2 n3 = z) :
    nbGo nB (u + 1) k s (N2.w0 a) (N2.w1 a) (N2.w2 a) (N2.w3 a) n0 n1 n2 n3 = bif decide (a < z) then nbGo nB u (k + 1) s (N2.w0 (N2.mulZ a 2147483646)) (N2.w1 (N2.mulZ a 2147483646)) (N2.w2 (N2.mulZ a 2147483646)) (N2.w3 (N2.mulZ a 2147483646)) n0 n1 n2 n3
      else nbRest nB k s (N2.w0 a) (N2.w1 a) (N2.w2 a) (N2.w3 a) n0 n1 n2 n3 := by
  have hz' : nB.z n0 n1 n2 n3 = z := hz
  have hn' : nB.inn n0 n1 n2 n3 = true := hn
  have ha1 : nB.inn (N2.w0 a) (N2.w1 a) (N2.w2 a) (N2.w3 a) = true := N2.inN_w a
  have ha2 : nB.z (N2.w0 a) (N2.w1 a) (N2.w2 a) (N2.w3 a) = a := N2.nval_id ha
  rw [nbGo]
  unfold NB.ws
  rw [ha1, hn', ha2, hz', show nB.inn 2147483646 0 0 0 = true from rfl, show nB.z 2147483646 0 0 0 = 2147483646 from rfl]
  simp only [Bool.and_self, cond_true]
  rw [show decide (nB.cmp a z < 0) = decide (a < z) from cmpI_lt]
  rfl
theorem nbGo_is : ∀ (u k : Nat) (s a n0 n1 n2 n3 z : Int), rightB s = true → inZ a → N2.inN n0 n1 n2 n3 = true → N2.nval n0 n1 n2 n3 = z → (natK u k a z).1 < u + k →
    nbGo nB u k s (N2.w0 a) (N2.w1 a) (N2.w2 a) (N2.w3 a) n0 n1 n2 n3 = nbRest nB (natK u k a z).1 s (N2.w0 (natK u k a z).2) (N2.w1 (natK u k a z).2) (N2.w2 (natK u k a z).2) (N2.w3 (natK u k a z).2) n0 n1 n2 n3
  | 0, k, s, a, n0, n1, n2, n3, z, hs, ha, hn, hz, hk => by simp only [natK] at hk; omega
  | u + 1, k, s, a, n0, n1, n2, n3, z, hs, ha, hn, hz, hk => by
    rw [nbGo_step ha hn hz]
    unfold natK at hk ⊢
    cases hd : decide (a < z) with
    | true =>
      rw [hd, cond_true] at hk
      simp only [cond_true]
      exact nbGo_is u (k + 1) s _ n0 n1 n2 n3 z hs (inZ_mul ha (by unfold inZ; omega)) hn hz (by omega)
    | false => simp only [cond_false]
theorem natK_ok {z : Int} (h1 : 1 ≤ z) (h2 : z ≤ 1329227995784915872903807060280344576) : 1 ≤ (natK 4 1 2147483646 z).1 ∧ (natK 4 1 2147483646 z).1 ≤ 4 ∧ inZ (natK 4 1 2147483646 z).2 ∧ z ≤ (natK 4 1 2147483646 z).2 := by
  have e1 : N2.mulZ 2147483646 2147483646 = 4611686009837453316 := rfl
  have e2 : N2.mulZ 4611686009837453316 2147483646 = 9903520286612926114398470136 := rfl
  have e3 : N2.mulZ 9903520286612926114398470136 2147483646 = 21267647853330491562877039744479395856 := rfl
  unfold natK
  by_cases q1 : (2147483646 : Int) < z
  · rw [decide_eq_true q1, cond_true, e1]
    unfold natK
    by_cases q2 : (4611686009837453316 : Int) < z
    · rw [decide_eq_true q2, cond_true, e2]
      unfold natK
      by_cases q3 : (9903520286612926114398470136 : Int) < z
      · rw [decide_eq_true q3, cond_true, e3]
        unfold natK
        rw [decide_eq_false (show ¬ (21267647853330491562877039744479395856 : Int) < z by omega), cond_false]
        unfold inZ; dsimp only; omega
      · rw [decide_eq_false q3, cond_false]; unfold inZ; dsimp only; omega
    · rw [decide_eq_false q2, cond_false]; unfold inZ; dsimp only; omega
  · rw [decide_eq_false q1, cond_false]; unfold inZ; dsimp only; omega
theorem zeroB_eq {n0 n1 n2 n3 : Int} (h : N2.inN n0 n1 n2 n3 = true) : zeroB n0 n1 n2 n3 = decide (N2.nval n0 n1 n2 n3 = 0) := N2.isZ_eq h
theorem nat_range_eq {n0 n1 n2 n3 : Int} (h : N2.inN n0 n1 n2 n3 = true) : decide (0 < cmpI n0 n1 n2 n3 0 0 0 16777216) = decide (1329227995784915872903807060280344576 < N2.nval n0 n1 n2 n3) := by
  rw [N2.inN_iff] at h
  unfold cmpI N2.nval
  by_cases a1 : n3 < 16777216
  · rw [decide_eq_true a1, cond_true]; rw [decide_eq_false (by omega), decide_eq_false (by omega)]
  · rw [decide_eq_false a1, cond_false]
    by_cases a2 : 16777216 < n3
    · rw [decide_eq_true a2, cond_true]; rw [decide_eq_true (by omega), decide_eq_true (by omega)]
    · rw [decide_eq_false a2, cond_false, decide_eq_false (show ¬ n2 < 0 by omega), cond_false]
      by_cases a3 : 0 < n2
      · rw [decide_eq_true a3, cond_true]; rw [decide_eq_true (by omega), decide_eq_true (by omega)]
      · rw [decide_eq_false a3, cond_false, decide_eq_false (show ¬ n1 < 0 by omega), cond_false]
        by_cases a4 : 0 < n1
        · rw [decide_eq_true a4, cond_true]; rw [decide_eq_true (by omega), decide_eq_true (by omega)]
        · rw [decide_eq_false a4, cond_false, decide_eq_false (show ¬ n0 < 0 by omega), cond_false]
          by_cases a5 : 0 < n0
          · rw [decide_eq_true a5, cond_true]; rw [decide_eq_true (by omega), decide_eq_true (by omega)]
          · rw [decide_eq_false a5, cond_false]; rw [decide_eq_false (by omega), decide_eq_false (by omega)]
theorem natB_eq {s n0 n1 n2 n3 : Int} (h : N2.inN n0 n1 n2 n3 = true) : natB s n0 n1 n2 n3 = natBz s (N2.nval n0 n1 n2 n3) := by
  unfold natB natBz; rw [zeroB_eq h, nat_range_eq h]
theorem decs2_ok : loopsOk Tryz.prog dec2 := decs_ok
theorem nat_pure {s n0 n1 n2 n3 : Int} (h : N2.inN n0 n1 n2 n3 = true) : FnPure Tryz.prog 23 [.int .i64 s, .agg [.int .u32 n0, .int .u32 n1, .int .u32 n2, .int .u32 n3]]
    (.tuple [.int .i64 (natS s (N2.nval n0 n1 n2 n3)), N2.nW (natV s (N2.nval n0 n1 n2 n3)), .int .i64 (errI (!natBz s (N2.nval n0 n1 n2 n3)))]) := by
  cases hb : natBz s (N2.nval n0 n1 n2 n3) with
  | true =>
    have := nat_err (natB_eq h ▸ hb : natB s n0 n1 n2 n3 = true)
    unfold natS natV
    rw [hb]
    exact this
  | false =>
    refine fnPure_of_eval (N := 4) orcB2_ok mixed Tryz.func23 (by kernel_rfl) decs2_ok ?_ rfl rfl
    rw [nb_eval]
    have hb' := hb
    simp only [natBz, Bool.or_eq_false_iff, Bool.not_eq_false', decide_eq_false_iff_not] at hb'
    obtain ⟨hs, h0, h1⟩ := hb'
    have hr := N2.nval_range h
    have hk := natK_ok (z := N2.nval n0 n1 n2 n3) (by omega) (by omega)
    have hB : inZ 2147483646 := by unfold inZ; omega
    have hG := nbGo_is 4 1 s 2147483646 n0 n1 n2 n3 _ hs hB h rfl (by omega)
    rw [show N2.w0 2147483646 = 2147483646 from rfl, show N2.w1 2147483646 = 0 from rfl, show N2.w2 2147483646 = 0 from rfl, show N2.w3 2147483646 = 0 from rfl, nbRest_is hs hk.2.2.1 h rfl] at hG
    rw [hs, zeroB_eq h, decide_eq_false h0, show nB.inn n0 n1 n2 n3 = true from h, show nB.inn 0 0 0 16777216 = true from rfl, hG]
    rw [show decide (0 < nB.cmp (nB.z n0 n1 n2 n3) (nB.z 0 0 0 16777216)) = decide (1329227995784915872903807060280344576 < N2.nval n0 n1 n2 n3) from ?_, decide_eq_false h1]
    · unfold natS natV natD natM
      rw [hb]
      rfl
    · show decide (0 < N2.cmpI (N2.nval n0 n1 n2 n3) 1329227995784915872903807060280344576) = _
      unfold N2.cmpI
      rw [decide_eq_false (show ¬ 1329227995784915872903807060280344576 < N2.nval n0 n1 n2 n3 from h1)]
      by_cases q : N2.nval n0 n1 n2 n3 < 1329227995784915872903807060280344576
      · rw [decide_eq_true q]; rfl
      · rw [decide_eq_false q]; rfl
end Go.Proofs.YtnbfnoomhlamnaaGreat
