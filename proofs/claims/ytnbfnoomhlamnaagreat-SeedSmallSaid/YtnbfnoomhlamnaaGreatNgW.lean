/- Chapter 3: SeedWide's formula is true. -/
import Derived.Test.YtnbfnoomhlamnaaGreatNgT
namespace Go.Proofs.YtnbfnoomhlamnaaGreat
open Go Go.Eng
theorem right_le {s : Int} (h : rightB s = true) : 1 ≤ s ∧ s ≤ 2147483646 := by
  simp only [rightB, Bool.and_eq_true, decide_eq_true_eq] at h; exact h
theorem ofI_right (n : Int) : rightB (ofI n) = true := by
  unfold ofI rightB
  by_cases h : n.tmod 2147483646 < 0
  · rw [decide_eq_true h, cond_true]
    have h1 : -2147483646 < n.tmod 2147483646 := by
      rcases Int.le_total 0 n with h | h
      · have := Int.tmod_nonneg 2147483646 h
        omega
      · have h4 := Int.tmod_lt_of_pos (-n) (show (0 : Int) < 2147483646 by omega)
        rw [Int.neg_tmod] at h4
        omega
    rw [wr64 (x := n.tmod 2147483646 + 2147483646) (by omega) (by omega), wr64 (by omega) (by omega)]
    simp only [Bool.and_eq_true, decide_eq_true_eq]; omega
  · rw [decide_eq_false h, cond_false]
    have := Int.tmod_lt_of_pos n (b := 2147483646) (by omega)
    rw [wr64 (by omega) (by omega)]
    simp only [Bool.and_eq_true, decide_eq_true_eq]; omega
theorem natBz_ok {s z : Int} (hs : rightB s = true) (h1 : 1 ≤ z) (h2 : z ≤ 1329227995784915872903807060280344576) : natBz s z = false := by
  unfold natBz
  rw [hs, decide_eq_false (show ¬ z = 0 by omega), decide_eq_false (show ¬ 1329227995784915872903807060280344576 < z by omega)]; rfl
theorem remZ_lt {x z : Int} (_ : 0 ≤ x) (hz : 1 ≤ z) : 0 ≤ N2.remZ x z ∧ N2.remZ x z < z ∧ N2.remZ x z = x % z := by
  unfold N2.remZ
  rw [decide_eq_false (show ¬ z = 0 by omega), cond_false]
  have h1 := Int.emod_nonneg x (show z ≠ 0 by omega)
  have h2 := Int.emod_lt_of_pos x (show 0 < z by omega)
  exact ⟨h1, h2, rfl⟩
theorem natD_in {s z : Int} (hs : rightB s = true) (h1 : 1 ≤ z) (h2 : z ≤ 1329227995784915872903807060280344576) : rightB (natD s z).1 = true ∧ inZ (natD s z).2 := by
  have hk := natK_ok h1 h2
  have hd := drawN_in (natK 4 1 2147483646 z).1 s 0 1 hs (by unfold inZ; omega) (by unfold inZ; omega)
  exact natR_in _ _ _ _ _ hd.1 hd.2
theorem natV_lt {s z : Int} (hs : rightB s = true) (h1 : 1 ≤ z) (h2 : z ≤ 1329227995784915872903807060280344576) : 0 ≤ natV s z ∧ natV s z < z := by
  unfold natV
  rw [natBz_ok hs h1 h2, cond_false]
  have := remZ_lt (natD_in hs h1 h2).2.1 h1
  omega
/-! ### one value: as Below -/
theorem drawN_one {s : Int} (hs : rightB s = true) : drawN 1 s 0 1 = (mulP s 48271, mulP s 48271 - 1) := by
  have := right_le (mulP_range s hs)
  unfold drawN drawN
  have e1 : N2.mulZ 1 (mulP s 48271 - 1) = mulP s 48271 - 1 := by
    unfold N2.mulZ; rw [Int.one_mul, decide_eq_true (by omega), cond_true]
  have e2 : N2.addZ 0 (mulP s 48271 - 1) = mulP s 48271 - 1 := by
    unfold N2.addZ; rw [Int.zero_add, decide_eq_true (by omega), cond_true]
  rw [e1, e2]
theorem natR_below (m : Int) : ∀ (n : Nat) (s v : Int), rightB s = true → natR 1 m n s v = ((belowR n v s m).2, (belowR n v s m).1)
  | 0, s, v, _ => rfl
  | n + 1, s, v, hs => by
    have := right_le (mulP_range s hs)
    unfold natR belowR
    cases decide (v < m) with
    | true => rfl
    | false =>
      simp only [cond_false]
      rw [drawN_one hs, wr64 (by omega) (by omega)]
      exact natR_below m n _ _ (mulP_range s hs)
theorem natD_one {s K : Int} (hs : rightB s = true) (h1 : 1 ≤ K) (h2 : K ≤ 2147483646) : natD s K = ((drawn s K).2, (drawn s K).1) := by
  have hr := right_le (mulP_range s hs)
  have e : natK 4 1 2147483646 K = (1, 2147483646) := by
    unfold natK; rw [decide_eq_false (show ¬ (2147483646 : Int) < K by omega), cond_false]
  have hm := remZ_lt (x := 2147483646) (z := K) (by omega) h1
  have e2 : natM K = mostI K := by
    unfold natM mostI N2.subZ
    rw [e]
    dsimp only
    have ht : (2147483646 : Int).tmod K = 2147483646 % K := Int.tmod_eq_emod_of_nonneg (by omega)
    have hle : (2147483646 : Int) % K ≤ 2147483646 := by rw [← hm.2.2]; omega
    rw [decide_eq_false (by omega), cond_false, ht, hm.2.2, wr64 (by omega) (by omega)]
  unfold natD
  rw [e, e2]
  dsimp only
  rw [drawN_one hs]
  dsimp only
  rw [natR_below _ _ _ _ (mulP_range s hs)]
  unfold drawn
  rw [wr64 (by omega) (by omega)]
/-! ### the square: two values as they are -/
abbrev sq : Int := 4611686009837453316
theorem drawN_two {s : Int} (hs : rightB s = true) : drawN 2 s 0 1 = (mulP (mulP s 48271) 48271, mulP s 48271 - 1 + 2147483646 * (mulP (mulP s 48271) 48271 - 1)) := by
  have h1 := right_le (mulP_range s hs)
  have h2 := right_le (mulP_range _ (mulP_range s hs))
  unfold drawN drawN drawN
  have e1 : N2.mulZ 1 (mulP s 48271 - 1) = mulP s 48271 - 1 := by
    unfold N2.mulZ; rw [Int.one_mul, decide_eq_true (by omega), cond_true]
  have e2 : N2.addZ 0 (mulP s 48271 - 1) = mulP s 48271 - 1 := by
    unfold N2.addZ; rw [Int.zero_add, decide_eq_true (by omega), cond_true]
  have e3 : N2.mulZ 1 2147483646 = 2147483646 := rfl
  have e4 : N2.mulZ 2147483646 (mulP (mulP s 48271) 48271 - 1) = 2147483646 * (mulP (mulP s 48271) 48271 - 1) := by
    unfold N2.mulZ; rw [decide_eq_true (by omega), cond_true]
  have e5 : N2.addZ (mulP s 48271 - 1) (2147483646 * (mulP (mulP s 48271) 48271 - 1)) = mulP s 48271 - 1 + 2147483646 * (mulP (mulP s 48271) 48271 - 1) := by
    unfold N2.addZ; rw [decide_eq_true (by omega), cond_true]
  rw [e1, e2, e3, e4, e5]
theorem natD_sq {s : Int} (hs : rightB s = true) : natD s sq = (mulP (mulP s 48271) 48271, mulP s 48271 - 1 + 2147483646 * (mulP (mulP s 48271) 48271 - 1)) := by
  have h1 := right_le (mulP_range s hs)
  have h2 := right_le (mulP_range _ (mulP_range s hs))
  have e1 : N2.mulZ 2147483646 2147483646 = sq := rfl
  have e : natK 4 1 2147483646 sq = (2, sq) := by
    unfold natK; rw [decide_eq_true (show (2147483646 : Int) < sq by unfold sq; omega), cond_true, e1]
    unfold natK; rw [decide_eq_false (show ¬ sq < sq by omega), cond_false]
  have em : natM sq = sq := by
    unfold natM; rw [e]; rfl
  unfold natD
  rw [e, em]
  dsimp only
  rw [drawN_two hs]
  dsimp only
  unfold natR
  rw [decide_eq_true (show mulP s 48271 - 1 + 2147483646 * (mulP (mulP s 48271) 48271 - 1) < sq by unfold sq; omega), cond_true]
theorem nextS_right {s : Int} (hs : rightB s = true) : nextS s = mulP s 48271 := by unfold nextS; rw [hs, cond_true]
theorem nextV_right {s : Int} (hs : rightB s = true) : nextV s = mulP s 48271 - 1 := by
  have h1 := right_le (mulP_range s hs)
  unfold nextV; rw [hs, cond_true, wr64 (by omega) (by omega)]
theorem ng3_true {s : Int} (hs : rightB s = true) : ng3 nG s = some (.bool true) := by
  have h1 := right_le (mulP_range s hs)
  have hs1 := mulP_range s hs
  have h2 := right_le (mulP_range _ hs1)
  have hz : natBz s sq = false := natBz_ok hs (by unfold sq; omega) (by unfold sq; omega)
  have hS : natS s sq = mulP (mulP s 48271) 48271 := by unfold natS; rw [hz, cond_false, natD_sq hs]
  have hV : natV s sq = mulP s 48271 - 1 + 2147483646 * (mulP (mulP s 48271) 48271 - 1) := by
    unfold natV; rw [hz, cond_false, natD_sq hs]
    dsimp only
    rw [(remZ_lt (by omega) (by unfold sq; omega)).2.2, Int.emod_eq_of_lt (by omega) (by unfold sq; omega)]
  have hVi : inZ (natV s sq) := by rw [hV]; unfold inZ; omega
  have hR : N2.remZ (natV s sq) 2147483646 = mulP s 48271 - 1 := by
    rw [(remZ_lt (by rw [hV]; omega) (by omega)).2.2, hV]; omega
  have hQ : N2.divZ (natV s sq) 2147483646 = mulP (mulP s 48271) 48271 - 1 := by
    unfold N2.divZ; rw [decide_eq_false (by omega), cond_false, hV]; omega
  unfold ng3 NB.ws
  have eB : nG.B = nB := rfl
  rw [eB, show nB.inn 2147483646 0 0 0 = true from rfl, show nB.z 2147483646 0 0 0 = 2147483646 from rfl, show nB.mul 2147483646 2147483646 = sq from rfl]
  dsimp only
  rw [inZ_w, z_w (show inZ sq by unfold inZ sq; omega), show nG.zv s sq = natV s sq from rfl, inZ_w, z_w hVi, show nB.rem (natV s sq) 2147483646 = N2.remZ (natV s sq) 2147483646 from rfl, hR, inZ_w, z_w (show inZ (mulP s 48271 - 1) by unfold inZ; omega),
    show nB.quo (natV s sq) 2147483646 = N2.divZ (natV s sq) 2147483646 from rfl, hQ, inZ_w, z_w (show inZ (mulP (mulP s 48271) 48271 - 1) by unfold inZ; omega)]
  simp only [Bool.and_self, cond_true]
  have a1 : nG.ze s sq = 0 := by show errI (!natBz s sq) = 0; rw [hz]; rfl
  have a2 : nG.ne s = 0 := by show errI (rightB s) = 0; rw [hs]; rfl
  have a3 : nG.ns s = mulP s 48271 := nextS_right hs
  have a4 : nG.ne (mulP s 48271) = 0 := by show errI (rightB _) = 0; rw [hs1]; rfl
  have a5 : nG.ns (mulP s 48271) = mulP (mulP s 48271) 48271 := nextS_right hs1
  have a6 : nG.nv s = mulP s 48271 - 1 := nextV_right hs
  have a7 : nG.nv (mulP s 48271) = mulP (mulP s 48271) 48271 - 1 := nextV_right hs1
  have a8 : nG.ine (mulP s 48271 - 1) = 0 := by show N2.intE _ = 0; unfold N2.intE; rw [decide_eq_true (by omega)]; rfl
  have a9 : nG.ine (mulP (mulP s 48271) 48271 - 1) = 0 := by show N2.intE _ = 0; unfold N2.intE; rw [decide_eq_true (by omega)]; rfl
  have b1 : nG.inz (mulP s 48271 - 1) = mulP s 48271 - 1 := by show N2.intZ _ = _; unfold N2.intZ; rw [decide_eq_true (by omega)]; rfl
  have b2 : nG.inz (mulP (mulP s 48271) 48271 - 1) = mulP (mulP s 48271) 48271 - 1 := by show N2.intZ _ = _; unfold N2.intZ; rw [decide_eq_true (by omega)]; rfl
  have b3 : nG.zs s sq = mulP (mulP s 48271) 48271 := hS
  rw [a1, a2, a3, a4, a5, a6, a7, a8, a9, b1, b2, b3, show nB.mulE 2147483646 2147483646 = 0 from rfl, show nB.divE 2147483646 = 0 from rfl]
  simp only [decide_true, cond_true]
  rfl
theorem ng2_true {s K : Int} (hs : rightB s = true) (h1 : 1 ≤ K) (h2 : K ≤ 2147483646) : ng2 nG s K = some (.bool true) := by
  have hz : natBz s K = false := natBz_ok hs h1 (by omega)
  have hb : belowB s K = false := by unfold belowB; rw [hs, decide_eq_false (show ¬ K < 1 by omega), decide_eq_false (show ¬ 2147483646 < K by omega)]; rfl
  have hD := natD_in hs h1 (z := K) (by omega)
  rw [natD_one hs h1 h2] at hD
  have hd := remZ_lt (x := (drawn s K).1) (z := K) hD.2.1 h1
  have hv : belowV s K = N2.remZ (drawn s K).1 K := by
    unfold belowV; rw [hb, cond_false, hd.2.2, Int.tmod_eq_emod_of_nonneg hD.2.1]
  have hV : natV s K = belowV s K := by
    rw [hv]; unfold natV; rw [hz, cond_false, natD_one hs h1 h2]
  have hS : natS s K = belowS s K := by
    unfold natS belowS; rw [hz, hb, cond_false, cond_false, natD_one hs h1 h2]
  have f : ∀ x, 0 ≤ x → N2.ofZ x = x ∧ N2.ofE x = 0 := fun x hx => by
    unfold N2.ofZ N2.ofE; rw [decide_eq_false (by omega)]; exact ⟨rfl, rfl⟩
  have hf : ∀ x : Int, 0 ≤ x → x ≤ 2147483646 → nG.fit x = true := fun x h h' => by
    show fitI x = true; unfold fitI; rw [decide_eq_true (by omega), decide_eq_true (by omega)]; rfl
  have eB : nG.B = nB := rfl
  unfold ng2 NB.ws
  rw [eB, hf K (by omega) h2, show nG.ofz K = K from (f K (by omega)).1, show nG.ofe K = 0 from (f K (by omega)).2]
  dsimp only
  rw [inZ_w, z_w (show inZ K by unfold inZ; omega), show nG.bv s K = belowV s K from rfl, hf (belowV s K) (by rw [hv]; omega) (by rw [hv]; omega),
    show nG.be s K = 0 from (by show errI (!belowB s K) = 0; rw [hb]; rfl), show nG.ze s K = 0 from (by show errI (!natBz s K) = 0; rw [hz]; rfl),
    show nG.ofe (belowV s K) = 0 from (f _ (by rw [hv]; omega)).2, show nG.ofz (belowV s K) = belowV s K from (f _ (by rw [hv]; omega)).1,
    show nG.bs s K = belowS s K from rfl, show nG.zs s K = belowS s K from hS, show nG.zv s K = belowV s K from hV, ng3_true hs]
  simp only [decide_true, Bool.and_self, Bool.not_true, cond_true, cond_false]
  rfl
theorem ng1_true {s m0 m1 m2 m3 sm : Int} (hs : rightB s = true) (hm : N2.inN m0 m1 m2 m3 = true) (h1 : 1 ≤ N2.nval m0 m1 m2 m3) (h2 : N2.nval m0 m1 m2 m3 ≤ 1329227995784915872903807060280344576) : ng1 nG s m0 m1 m2 m3 sm = some (.bool true) := by
  have hz := natBz_ok hs h1 h2
  have hv := natV_lt hs h1 h2
  have hr := N2.nval_range hm
  have eB : nG.B = nB := rfl
  unfold ng1 NB.ws
  rw [eB, show nB.inn m0 m1 m2 m3 = true from hm, show nG.ze s (nB.z m0 m1 m2 m3) = 0 from (by show errI (!natBz s (N2.nval m0 m1 m2 m3)) = 0; rw [hz]; rfl)]
  dsimp only
  rw [inZ_w, show nG.zv s (nB.z m0 m1 m2 m3) = natV s (N2.nval m0 m1 m2 m3) from rfl, z_w (show inZ (natV s (N2.nval m0 m1 m2 m3)) by unfold inZ; omega)]
  have hc : nB.cmp (natV s (N2.nval m0 m1 m2 m3)) (nB.z m0 m1 m2 m3) = -1 := by
    show N2.cmpI _ (N2.nval m0 m1 m2 m3) = -1
    unfold N2.cmpI; rw [decide_eq_true hv.2]; rfl
  rw [hc]
  have t1 : -2147483646 < sm.tmod 2147483646 := by
    rcases Int.le_total 0 sm with h | h
    · have := Int.tmod_nonneg 2147483646 h
      omega
    · have h4 := Int.tmod_lt_of_pos (-sm) (show (0 : Int) < 2147483646 by omega)
      rw [Int.neg_tmod] at h4
      omega
  have t2 := Int.tmod_lt_of_pos sm (show (0 : Int) < 2147483646 by omega)
  cases hd : decide (sm.tmod 2147483646 < 0) with
  | true =>
    simp only [decide_eq_true_eq] at hd
    rw [wr64 (x := sm.tmod 2147483646 + 2147483646) (by omega) (by omega), wr64 (x := 1 + (sm.tmod 2147483646 + 2147483646)) (by omega) (by omega), ng2_true (K := 1 + (sm.tmod 2147483646 + 2147483646)) hs (by omega) (by omega)]
    rfl
  | false =>
    simp only [decide_eq_false_iff_not] at hd
    rw [wr64 (x := 1 + sm.tmod 2147483646) (by omega) (by omega), ng2_true (K := 1 + sm.tmod 2147483646) hs (by omega) (by omega)]
    rfl
end Go.Proofs.YtnbfnoomhlamnaaGreat
