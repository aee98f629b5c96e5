/- Chapter 9: the law AuctionEnds: it is true. -/
import Derived.Test.YtnhilofmafjdpaaDoorEnd3
import Derived.Test.YtnhilofmafjdpaaDoorEnd3
namespace Go.Proofs.YtnhilofmafjdpaaDoor
open Go Go.Eng
theorem e1Cd : codesB [(e1Lp, e1Lp)] = true := by rw [codesB_iff]; intro x hx; simp at hx; rw [hx]
theorem e2Cd : codesB [(e2Lp, e2Lp)] = true := by rw [codesB_iff]; intro x hx; simp at hx; rw [hx]
theorem e3Cd : codesB [(e3Lp, e3Lp)] = true := by rw [codesB_iff]; intro x hx; simp at hx; rw [hx]
noncomputable def e1C (d n : Int) (l : List Int) : Bool := pB (n = (l.length : Int) ∧ okA d l = true ∧ l.length ≤ 319 ∧ (fol d l).e = 0)
noncomputable def e2C (d dn bd n : Int) (l : List Int) (c4 : Int) : Bool := pB (E2 d dn bd n l c4)
noncomputable def e3C (d bd i : Int) (l : List Int) (c3 : Int) : Bool := pB (E3 d bd i l c3)
theorem enL_ok (nn : Bool) : loopsOk Tryd.prog (enL e1C e2C e3C nn) := by
  intro n g hg
  simp only [enL, sums] at hg
  split at hg
  · cases hg
    refine lsumF_ok (by cases nn <;> kernel_rfl) (fun rd ps e1 st1 hq => ?_)
    unfold e1Tree at hq
    split at hq
    · rename_i b d n i tl xs l
      simp only [Fin.pick] at hq
      cases hc : (decide (i = 0) && e1C d n l) with
      | false => rw [hc] at hq; cases hq
      | true =>
        rw [hc, cond_true] at hq
        simp only [e1C, Bool.and_eq_true, decide_eq_true_eq, pB_iff] at hc
        obtain ⟨rfl, rfl, h1, h2, h3⟩ := hc
        cases hq
        exact e1_loop nn rd b d tl xs l h1 h2 h3 0 (Nat.zero_le _)
    · cases hq
  · cases hg
    refine lsumF_ok (by cases nn <;> kernel_rfl) (fun rd ps e1 st1 hq => ?_)
    unfold e2Tree at hq
    split at hq
    · rename_i b d a dn bd n i tl xs l c1 c2 c3 c4
      simp only [Fin.pick] at hq
      cases hc : (decide (i = 0) && e2C d dn bd n l c4) with
      | false => rw [hc] at hq; cases hq
      | true =>
        rw [hc, cond_true] at hq
        simp only [e2C, Bool.and_eq_true, decide_eq_true_eq, pB_iff] at hc
        obtain ⟨rfl, rfl, h1, h2, h3, i0, h4, h5, h6, h7⟩ := hc
        cases hq
        exact e2_loop nn rd b d a dn bd c1 c2 c3 c4 tl xs l h1 h2 h3 i0 h4 h5 h6 h7 0 (Nat.zero_le _)
    · cases hq
  · cases hg
    refine lsumF_ok (by cases nn <;> kernel_rfl) (fun rd ps e1 st1 hq => ?_)
    unfold e3Tree at hq
    split at hq
    · rename_i b d bd r i tl xs l c1 c2 c3 c4
      simp only [Fin.pick] at hq
      cases hc : (decide (r = 0) && e3C d bd i l c3) with
      | false => rw [hc] at hq; cases hq
      | true =>
        rw [hc, cond_true] at hq
        simp only [e3C, Bool.and_eq_true, decide_eq_true_eq, pB_iff] at hc
        obtain ⟨rfl, a, h1, rfl, h2, h3, h4, h5, h6⟩ := hc
        cases hq
        exact e3_loop nn rd b d bd c1 c2 c3 c4 tl xs l h2 h3 a h4 h5 (0, 0) ⟨by omega, h6⟩
    · cases hq
  · cases hg
theorem fstI_some {d sd dn : Int} : ∀ (l : List Int) (k i : Nat), fstI d sd dn k l = some i → ∃ h : k ≤ i ∧ i - k < l.length, fCond d sd dn i (l[i - k]'h.2) = true ∧ ∀ j, ∀ h1 : k ≤ j, ∀ h2 : j < i, fCond d sd dn j (l[j - k]'(by omega)) = false
  | [], _, _, h => by cases h
  | x :: l, k, i, h => by
    simp only [fstI] at h
    cases hc : fCond d sd dn k x with
    | true =>
      rw [hc] at h
      cases h
      refine ⟨⟨Nat.le_refl _, by simp⟩, ?_, fun j h1 h2 => by omega⟩
      simp only [Nat.sub_self, List.getElem_cons_zero]; exact hc
    | false =>
      rw [hc] at h
      obtain ⟨⟨q1, q2⟩, q3, q4⟩ := fstI_some l (k + 1) i h
      refine ⟨⟨by omega, by simp only [List.length_cons]; omega⟩, ?_, fun j h1 h2 => ?_⟩
      · have e : i - k = (i - (k + 1)) + 1 := by omega
        simp only [e, List.getElem_cons_succ]; exact q3
      · rcases Nat.eq_or_lt_of_le h1 with rfl | h1
        · simp only [Nat.sub_self, List.getElem_cons_zero]; exact hc
        · have e : j - k = (j - (k + 1)) + 1 := by omega
          simp only [e, List.getElem_cons_succ]; exact q4 j h1 h2
theorem en_bid {D : Int} {X : List Int} (hk : okA D X = true) (hr : (fol D X).e = 0) (hl : X.length ≤ 319) {k : Nat} (hkl : k < X.length) (hb : isBid X[k] = true) (hn : ∀ j, k < j → j < X.length → isBid (X.getD j 0) = false) (hm : (fol D X).s.b.m = true) :
    en2 ldV ldE e2C e3C D (k : Int) X[k] X (fol D X).s.b.l (fol D X).s.b.d (fol D X).s.risk ((fol D X).s.fst (kOf (fol D X).s.b.s (fol D X).s.b.d)).s = some (.bool true) := by
  have hd := fol_d hr
  have hd0 : 0 ≤ D := by simp only [okA, Bool.and_eq_true, decide_eq_true_eq] at hk; exact hk.1
  have hu := okA_U hk
  have iv := inv_fol hk hr
  have hh := hist hk hr
  generalize (fol D X).s = s at *
  obtain ⟨⟨b1, b2, b3, b4⟩, b5⟩ := iv.b hm
  obtain ⟨a, a1, a2, a3, a4, a5, a6⟩ := hh.bid hm
  have hg : ∀ j, ∀ h : j < X.length, X.getD j 0 = X[j] := fun j h => by rw [List.getD_eq_getElem?_getD, List.getElem?_eq_getElem h]; rfl
  have hak : a = k := by
    rcases Nat.lt_trichotomy a k with h | h | h
    · have := a5 k h hkl; rw [hg k hkl, hb] at this; cases this
    · exact h
    · have := hn a h a1; rw [a2, a3] at this; cases this
  subst hak
  rw [hg a hkl] at a2
  have hdn := dn_range b1
  have hlv := lv_pos b1
  have hkf : kOf s.b.s s.b.d = (s.b.s % 2).toNat * 5 + s.b.d.toNat := by unfold kOf; omega
  have hf := hh.fst (s.b.s % 2).toNat s.b.d.toNat (by omega) (by omega)
  rw [← hkf] at hf
  cases hfi : fstI D ((s.b.s % 2).toNat : Int) (s.b.d.toNat : Int) 0 X with
  | none => rw [hfi] at hf; dsimp only at hf; rw [b5] at hf; cases hf
  | some i0 =>
    rw [hfi] at hf
    dsimp only at hf
    obtain ⟨⟨_, q1⟩, q2, q3⟩ := fstI_some X 0 i0 hfi
    simp only [Nat.sub_zero] at q1 q2 q3
    rw [show ((s.b.s % 2).toNat : Int) = s.b.s % 2 by omega, show (s.b.d.toNat : Int) = s.b.d by omega] at q2 q3
    have qs : (D + (i0 : Int)) % 2 = s.b.s % 2 := by
      unfold fCond at q2
      simp only [Bool.and_eq_true, decide_eq_true_eq] at q2
      exact q2.2.2
    have hcs := hf.2
    generalize (s.fst (kOf s.b.s s.b.d)).s = cs at *
    have e1 : wr .i64 D = D := wr64 (by omega) (by omega)
    have e2 : wr .i64 (D + (a : Int)) = D + (a : Int) := wr64 (by omega) (by omega)
    have e3 : (D + (a : Int)).tmod 4 = s.b.s := by rw [Int.tmod_eq_emod_of_nonneg (by omega), a4]
    have e4 : wr .i64 ((a : Int) + 1) = ((a + 1 : Nat) : Int) := by rw [wr64 (by omega) (by omega)]; omega
    have e5 : wr .i64 cs = cs := wr64 (by omega) (by omega)
    have e6 : cs.tmod 2 = s.b.s.tmod 2 := by rw [Int.tmod_eq_emod_of_nonneg (by omega), Int.tmod_eq_emod_of_nonneg (by omega)]; omega
    have hE2 : e2C D s.b.d s.b.s (Int.ofNat X.length) X cs = true := pB_iff.2 ⟨rfl, hl, ⟨hd0, by omega⟩, by omega, i0, q1, hcs, q2, fun j hj => q3 j (Nat.zero_le _) hj⟩
    have hE3 : e3C D s.b.s ((a + 1 : Nat) : Int) X s.risk = true := pB_iff.2 ⟨a, hkl, rfl, hl, ⟨hd0, by omega⟩, a4, hu, a6⟩
    have hLE : ldE s.b.l s.b.d s.risk cs = 0 := by
      have := iv.risk
      unfold ldE ldN
      rw [decide_eq_false (show ¬ s.b.l = 0 by omega), decide_eq_false (show ¬ 7 < s.b.l by omega), decide_eq_false (show ¬ 4 < s.b.d by omega), decide_eq_false (show ¬ 2 < s.risk by omega), decide_eq_false (show ¬ 3 < cs by omega)]; rfl
    have hLV : ldV s.b.l s.b.d s.risk cs = (wr .u8 (cs + 1)).tmod 4 := by
      have := iv.risk
      unfold ldV ldN
      rw [decide_eq_false (show ¬ s.b.l = 0 by omega), decide_eq_false (show ¬ 7 < s.b.l by omega), decide_eq_false (show ¬ 4 < s.b.d by omega), decide_eq_false (show ¬ 2 < s.risk by omega), decide_eq_false (show ¬ 3 < cs by omega), wr_u8_id (n := cs + 1) (by omega)]; rfl
    have eL : s.b.l = lvZ X[a] := by unfold lvZ; rw [a2, b1, b2]; rfl
    have eD : s.b.d = dnZ X[a] := by unfold dnZ; rw [a2, b1, b3]; rfl
    unfold en2 en3
    rw [← eL, ← eD, e1, e2, e3, e4, e5, e6, e2Cd, e3Cd, hE2, hE3, hLE, hLV, decide_eq_true (show 0 ≤ cs by omega), decide_eq_true (rfl : s.b.l = s.b.l), decide_eq_true (rfl : s.b.d = s.b.d), decide_eq_true (rfl : s.b.s.tmod 2 = s.b.s.tmod 2), decide_eq_true (rfl : s.risk = s.risk),
      decide_eq_true (rfl : (wr .u8 (cs + 1)).tmod 4 = (wr .u8 (cs + 1)).tmod 4)]
    rfl
theorem ends_true (nn : Bool) {d : Int} {xs : List Int} (hd : 0 ≤ d) (hu : allU xs = true) : evalFn Tryd.prog (orcS nK soK (tabEn ldV ldE) plainL) (enL e1C e2C e3C nn) 100 8 Tryd.f8 [.int .u8 d, .gs 1] (gH ++ [.rs nn 1 (.ints .u8 xs)]) (fun v _ => some v) = some (.bool true) := by
  obtain ⟨hok, _⟩ := made_ok hd hu true
  have hr := made_right hd hu true
  have ho := made_over hd hu
  have hl := right_len hok hr
  have hMK : nK.MK d xs = true := by show mK d xs = true; unfold mK; rw [hu, decide_eq_true hd]; rfl
  rw [ends_eval]
  unfold enE
  rw [pB_iff.2 rfl, hMK, e1Cd, show nK.MD d xs true = made d xs true from rfl]
  generalize d.tmod 4 = D at *
  generalize made d xs true = X at *
  have hh := hist hok hr
  have hp := passes_ok (fol_d hr) X hr (okA_U hok)
  have hC1 : e1C D (Int.ofNat X.length) X = true := pB_iff.2 ⟨rfl, hok, hl, hr⟩
  obtain ⟨ce, cm⟩ := ct_over hr ho
  have h1 : nK.N.OB D X = true := by show ovB (fol D X) = true; unfold ovB; rw [decide_eq_true hr, ho]; rfl
  have h2 : nK.N.OE D X = 0 := by show ovE (fol D X) = 0; unfold ovE okU; rw [decide_eq_true hr]; rfl
  have h3 : nK.N.CE D X = 0 := ce
  have h4 : nK.N.KS X = true := by show smallL X = true; simp only [okA, Bool.and_eq_true] at hok; exact hok.2.1
  rw [hC1]
  simp only [cond_true, decide_true, Bool.and_self]
  unfold en1
  rw [show nK.N.K D X = true from hok, h1, h2, h3, h4, decide_eq_false (show ¬ 319 < Int.ofNat X.length from fun h => by have : 319 < (X.length : Int) := h; omega)]
  cases hb : nK.N.LB X with
  | false =>
    have hno := lastN_none (xs := X) X.length hb
    have hm : (fol D X).s.b.m = false := by
      cases hm : (fol D X).s.b.m with
      | false => rfl
      | true =>
        obtain ⟨a, a1, a2, a3, _⟩ := hh.bid hm
        have := hno a a1
        rw [a2, a3] at this; cases this
    rw [hm] at cm
    have z1 : nK.N.CL D X = 0 := by show ctL (fol D X) = 0; unfold ctL okU; rw [cm]; rfl
    have z2 : nK.N.CD D X = 0 := by show ctD (fol D X) = 0; unfold ctD okU; rw [cm]; rfl
    have z3 : nK.N.CR D X = 0 := by show ctR (fol D X) = 0; unfold ctR okU; rw [cm]; rfl
    have z4 : nK.N.CS D X = 0 := by show ctS (fol D X) = 0; unfold ctS okU; rw [cm]; rfl
    obtain ⟨_, n2, _⟩ := hh.nob hm
    have hln : Int.ofNat X.length = 4 := by
      have ho' := ho
      unfold ovr at ho'
      rw [hm] at ho'
      simp only [cond_false, decide_eq_true_eq] at ho'
      show (X.length : Int) = 4
      omega
    rw [z1, z2, z3, z4, decide_eq_true hln]; rfl
  | true =>
    obtain ⟨k, hk1, hk2, hk3, hk4⟩ := lastN_some (xs := X) X.length hb
    have hLI : nK.N.LI X = (k : Int) := hk2
    have hg : X.getD k 0 = X[k] := by rw [List.getD_eq_getElem?_getD, List.getElem?_eq_getElem hk1]; rfl
    rw [hg] at hk3
    have hm : (fol D X).s.b.m = true := by
      cases hm : (fol D X).s.b.m with
      | true => rfl
      | false =>
        have := (hh.nob hm).1 X[k] (List.getElem_mem hk1)
        rw [this] at hk3; cases hk3
    rw [hm] at cm
    have z1 : nK.N.CL D X = (fol D X).s.b.l := by show ctL (fol D X) = _; unfold ctL okU; rw [cm]; rfl
    have z2 : nK.N.CD D X = (fol D X).s.b.d := by show ctD (fol D X) = _; unfold ctD okU; rw [cm]; rfl
    have z3 : nK.N.CR D X = (fol D X).s.risk := by show ctR (fol D X) = _; unfold ctR okU; rw [cm]; rfl
    have z4 : nK.N.CS D X = ((fol D X).s.fst (kOf (fol D X).s.b.s (fol D X).s.b.d)).s := by show ctS (fol D X) = _; unfold ctS okU; rw [cm]; rfl
    have key := en_bid hok hr hl hk1 hk3 hk4 hm
    rw [hLI, decide_eq_true (show 0 ≤ (k : Int) ∧ (k : Int) < Int.ofNat X.length from ⟨by omega, by show (k : Int) < (X.length : Int); omega⟩), z1, z2, z3, z4, show ((k : Int)).toNat = k from rfl, List.getElem?_eq_getElem hk1]
    exact key
end Go.Proofs.YtnhilofmafjdpaaDoor
