/- Chapter 9: Contract for every list. (Printed by Ctr2.py.) -/
import Derived.Test.YtojlmpcbplepcaaFol3
namespace Go.Proofs.Ytojlmpcbplepcaa
open Go Go.Eng
noncomputable def contrE (OV : St → Bool) (F : FR) (c : Bool) (k : Nat) (dl : Int) : Option V := bif c then bif !decide (F.e = 0) then some (ctV 0 0 0 0 2) else bif !OV F.s then some (ctV 0 0 0 0 91) else bif !F.s.b.m then some (ctV 0 0 0 0 0) else some (ctV F.s.b.l dl F.s.risk (F.s.fst k).s 0) else none
theorem contr_0_0 (F : Int → List Int → FR) (CH : St → Int → Int) (OV : St → Bool) (nn : Bool) (d : Int) (xs : List Int) : ev1L 0 0 (tabO CH OV) F noLoops 32 Try.f32 nn d xs = contrE OV (litF (F d xs) 0 0) (okA d xs && decide ((F d xs).s.b.s = 0 ∧ (F d xs).s.b.d = 0)) 0 0 := by cases nn <;> kernel_rfl
theorem contr_0_1 (F : Int → List Int → FR) (CH : St → Int → Int) (OV : St → Bool) (nn : Bool) (d : Int) (xs : List Int) : ev1L 0 1 (tabO CH OV) F noLoops 32 Try.f32 nn d xs = contrE OV (litF (F d xs) 0 1) (okA d xs && decide ((F d xs).s.b.s = 0 ∧ (F d xs).s.b.d = 1)) 1 1 := by cases nn <;> kernel_rfl
theorem contr_0_2 (F : Int → List Int → FR) (CH : St → Int → Int) (OV : St → Bool) (nn : Bool) (d : Int) (xs : List Int) : ev1L 0 2 (tabO CH OV) F noLoops 32 Try.f32 nn d xs = contrE OV (litF (F d xs) 0 2) (okA d xs && decide ((F d xs).s.b.s = 0 ∧ (F d xs).s.b.d = 2)) 2 2 := by cases nn <;> kernel_rfl
theorem contr_0_3 (F : Int → List Int → FR) (CH : St → Int → Int) (OV : St → Bool) (nn : Bool) (d : Int) (xs : List Int) : ev1L 0 3 (tabO CH OV) F noLoops 32 Try.f32 nn d xs = contrE OV (litF (F d xs) 0 3) (okA d xs && decide ((F d xs).s.b.s = 0 ∧ (F d xs).s.b.d = 3)) 3 3 := by cases nn <;> kernel_rfl
theorem contr_0_4 (F : Int → List Int → FR) (CH : St → Int → Int) (OV : St → Bool) (nn : Bool) (d : Int) (xs : List Int) : ev1L 0 4 (tabO CH OV) F noLoops 32 Try.f32 nn d xs = contrE OV (litF (F d xs) 0 4) (okA d xs && decide ((F d xs).s.b.s = 0 ∧ (F d xs).s.b.d = 4)) 4 4 := by cases nn <;> kernel_rfl
theorem contr_1_0 (F : Int → List Int → FR) (CH : St → Int → Int) (OV : St → Bool) (nn : Bool) (d : Int) (xs : List Int) : ev1L 1 0 (tabO CH OV) F noLoops 32 Try.f32 nn d xs = contrE OV (litF (F d xs) 1 0) (okA d xs && decide ((F d xs).s.b.s = 1 ∧ (F d xs).s.b.d = 0)) 5 0 := by cases nn <;> kernel_rfl
theorem contr_1_1 (F : Int → List Int → FR) (CH : St → Int → Int) (OV : St → Bool) (nn : Bool) (d : Int) (xs : List Int) : ev1L 1 1 (tabO CH OV) F noLoops 32 Try.f32 nn d xs = contrE OV (litF (F d xs) 1 1) (okA d xs && decide ((F d xs).s.b.s = 1 ∧ (F d xs).s.b.d = 1)) 6 1 := by cases nn <;> kernel_rfl
theorem contr_1_2 (F : Int → List Int → FR) (CH : St → Int → Int) (OV : St → Bool) (nn : Bool) (d : Int) (xs : List Int) : ev1L 1 2 (tabO CH OV) F noLoops 32 Try.f32 nn d xs = contrE OV (litF (F d xs) 1 2) (okA d xs && decide ((F d xs).s.b.s = 1 ∧ (F d xs).s.b.d = 2)) 7 2 := by cases nn <;> kernel_rfl
theorem contr_1_3 (F : Int → List Int → FR) (CH : St → Int → Int) (OV : St → Bool) (nn : Bool) (d : Int) (xs : List Int) : ev1L 1 3 (tabO CH OV) F noLoops 32 Try.f32 nn d xs = contrE OV (litF (F d xs) 1 3) (okA d xs && decide ((F d xs).s.b.s = 1 ∧ (F d xs).s.b.d = 3)) 8 3 := by cases nn <;> kernel_rfl
theorem contr_1_4 (F : Int → List Int → FR) (CH : St → Int → Int) (OV : St → Bool) (nn : Bool) (d : Int) (xs : List Int) : ev1L 1 4 (tabO CH OV) F noLoops 32 Try.f32 nn d xs = contrE OV (litF (F d xs) 1 4) (okA d xs && decide ((F d xs).s.b.s = 1 ∧ (F d xs).s.b.d = 4)) 9 4 := by cases nn <;> kernel_rfl
theorem contr_2_0 (F : Int → List Int → FR) (CH : St → Int → Int) (OV : St → Bool) (nn : Bool) (d : Int) (xs : List Int) : ev1L 2 0 (tabO CH OV) F noLoops 32 Try.f32 nn d xs = contrE OV (litF (F d xs) 2 0) (okA d xs && decide ((F d xs).s.b.s = 2 ∧ (F d xs).s.b.d = 0)) 0 0 := by cases nn <;> kernel_rfl
theorem contr_2_1 (F : Int → List Int → FR) (CH : St → Int → Int) (OV : St → Bool) (nn : Bool) (d : Int) (xs : List Int) : ev1L 2 1 (tabO CH OV) F noLoops 32 Try.f32 nn d xs = contrE OV (litF (F d xs) 2 1) (okA d xs && decide ((F d xs).s.b.s = 2 ∧ (F d xs).s.b.d = 1)) 1 1 := by cases nn <;> kernel_rfl
theorem contr_2_2 (F : Int → List Int → FR) (CH : St → Int → Int) (OV : St → Bool) (nn : Bool) (d : Int) (xs : List Int) : ev1L 2 2 (tabO CH OV) F noLoops 32 Try.f32 nn d xs = contrE OV (litF (F d xs) 2 2) (okA d xs && decide ((F d xs).s.b.s = 2 ∧ (F d xs).s.b.d = 2)) 2 2 := by cases nn <;> kernel_rfl
theorem contr_2_3 (F : Int → List Int → FR) (CH : St → Int → Int) (OV : St → Bool) (nn : Bool) (d : Int) (xs : List Int) : ev1L 2 3 (tabO CH OV) F noLoops 32 Try.f32 nn d xs = contrE OV (litF (F d xs) 2 3) (okA d xs && decide ((F d xs).s.b.s = 2 ∧ (F d xs).s.b.d = 3)) 3 3 := by cases nn <;> kernel_rfl
theorem contr_2_4 (F : Int → List Int → FR) (CH : St → Int → Int) (OV : St → Bool) (nn : Bool) (d : Int) (xs : List Int) : ev1L 2 4 (tabO CH OV) F noLoops 32 Try.f32 nn d xs = contrE OV (litF (F d xs) 2 4) (okA d xs && decide ((F d xs).s.b.s = 2 ∧ (F d xs).s.b.d = 4)) 4 4 := by cases nn <;> kernel_rfl
theorem contr_3_0 (F : Int → List Int → FR) (CH : St → Int → Int) (OV : St → Bool) (nn : Bool) (d : Int) (xs : List Int) : ev1L 3 0 (tabO CH OV) F noLoops 32 Try.f32 nn d xs = contrE OV (litF (F d xs) 3 0) (okA d xs && decide ((F d xs).s.b.s = 3 ∧ (F d xs).s.b.d = 0)) 5 0 := by cases nn <;> kernel_rfl
theorem contr_3_1 (F : Int → List Int → FR) (CH : St → Int → Int) (OV : St → Bool) (nn : Bool) (d : Int) (xs : List Int) : ev1L 3 1 (tabO CH OV) F noLoops 32 Try.f32 nn d xs = contrE OV (litF (F d xs) 3 1) (okA d xs && decide ((F d xs).s.b.s = 3 ∧ (F d xs).s.b.d = 1)) 6 1 := by cases nn <;> kernel_rfl
theorem contr_3_2 (F : Int → List Int → FR) (CH : St → Int → Int) (OV : St → Bool) (nn : Bool) (d : Int) (xs : List Int) : ev1L 3 2 (tabO CH OV) F noLoops 32 Try.f32 nn d xs = contrE OV (litF (F d xs) 3 2) (okA d xs && decide ((F d xs).s.b.s = 3 ∧ (F d xs).s.b.d = 2)) 7 2 := by cases nn <;> kernel_rfl
theorem contr_3_3 (F : Int → List Int → FR) (CH : St → Int → Int) (OV : St → Bool) (nn : Bool) (d : Int) (xs : List Int) : ev1L 3 3 (tabO CH OV) F noLoops 32 Try.f32 nn d xs = contrE OV (litF (F d xs) 3 3) (okA d xs && decide ((F d xs).s.b.s = 3 ∧ (F d xs).s.b.d = 3)) 8 3 := by cases nn <;> kernel_rfl
theorem contr_3_4 (F : Int → List Int → FR) (CH : St → Int → Int) (OV : St → Bool) (nn : Bool) (d : Int) (xs : List Int) : ev1L 3 4 (tabO CH OV) F noLoops 32 Try.f32 nn d xs = contrE OV (litF (F d xs) 3 4) (okA d xs && decide ((F d xs).s.b.s = 3 ∧ (F d xs).s.b.d = 4)) 9 4 := by cases nn <;> kernel_rfl
/-- What holds of every state that is come to. -/
def gS (s : St) : Prop := (0 ≤ s.turn ∧ s.turn < 4) ∧ (0 ≤ s.b.s ∧ s.b.s < 4) ∧ (0 ≤ s.b.d ∧ s.b.d < 5)
theorem gS0 {t : Int} (h : 0 ≤ t ∧ t < 4) : gS (st0 t) := ⟨h, ⟨by show (0 : Int) ≤ 0; omega, by show (0 : Int) < 4; omega⟩, ⟨by show (0 : Int) ≤ 0; omega, by show (0 : Int) < 5; omega⟩⟩
theorem setF_b (s : St) (b : Bd) (k : Nat) : (s.setF b k).b = s.b := by
  unfold St.setF; split <;> rfl
theorem gS_aft {s : St} {c : Int} (h : gS s) (hc : okC c = true) : gS (aft s c) := by
  obtain ⟨h1, h2, h3⟩ := h
  refine ⟨by rw [aft_turn]; exact nx_range _, ?_⟩
  unfold aft
  cases e0 : decide (c = 0) with
  | true => exact ⟨h2, h3⟩
  | false => cases e1 : (decide (c = 1) || decide (c = 2)) with
    | true => exact ⟨h2, h3⟩
    | false =>
      have hb : isBid c = true := by
        simp only [Bool.or_eq_false_iff, decide_eq_false_iff_not] at e0 e1
        simp only [okC, isBid, Bool.and_eq_true, decide_eq_true_eq] at hc ⊢
        omega
      have hd := dn_range hb
      cases (s.fst (kOf s.turn (dnI c))).m with
      | true => exact ⟨h1, hd⟩
      | false =>
        simp only [cond_false]
        rw [setF_b]
        exact ⟨h1, hd⟩
theorem gS_flw : ∀ (xs : List Int) (i : Nat) (s : St), gS s → allU xs = true → gS (flw xs i s).s
  | [], _, s, h, _ => h
  | c :: r, i, s, h, hu => by
    simp only [allU, Bool.and_eq_true, decide_eq_true_eq] at hu
    unfold flw
    by_cases hb : chk s c = 0
    · rw [decide_eq_true hb]
      exact gS_flw r (i + 1) _ (gS_aft h (chk_ok hb hu.1.1)) hu.2
    · rw [decide_eq_false hb]; exact gS0 (by decide)
theorem gS_fol {d : Int} {xs : List Int} (h : okA d xs = true) : gS (fol d xs).s := by
  simp only [okA, Bool.and_eq_true, decide_eq_true_eq] at h
  unfold fol
  cases hd : decide (3 < d) with
  | true => exact gS0 (by decide)
  | false =>
    simp only [decide_eq_false_iff_not] at hd
    exact gS_flw xs 0 _ (gS0 (by omega)) h.2.2
theorem contr15_fn (nn : Bool) {d : Int} {xs : List Int} (h : okA d xs = true) : FnOK Try.prog 32 [.int .u8 d, .gs 0] [.rs nn 1 (.ints .u8 xs)] (contrV ovr (fol d xs)) [.rs nn 1 (.ints .u8 xs)] := by
  obtain ⟨_, h2, h3⟩ := gS_fol h
  have hpl : plainV (contrV ovr (fol d xs)) = true := by
    unfold contrV; cases decide ((fol d xs).e = 0) <;> cases ovr (fol d xs).s <;> cases (fol d xs).s.b.m <;> rfl
  obtain ⟨sl, hs⟩ : ∃ sl, (fol d xs).s.b.s = sl := ⟨_, rfl⟩
  obtain ⟨dl, hd⟩ : ∃ dl, (fol d xs).s.b.d = dl := ⟨_, rfl⟩
  refine fn1L (sl := sl) (dl := dl) tabO_ok noLoops_ok Try.func32 ?_ hpl
  have fin : contrE ovr (litF (fol d xs) sl dl) (okA d xs && decide ((fol d xs).s.b.s = sl ∧ (fol d xs).s.b.d = dl)) (kOf sl dl) dl = some (contrV ovr (fol d xs)) := by
    rw [lit_self hs hd, h, decide_eq_true ⟨hs, hd⟩]
    unfold contrE contrV
    rw [hs, hd]
    cases decide ((fol d xs).e = 0) <;> cases ovr (fol d xs).s <;> cases (fol d xs).s.b.m <;> rfl
  rw [← fin]
  rw [hs] at h2
  rw [hd] at h3
  have hs' : sl = 0 ∨ sl = 1 ∨ sl = 2 ∨ sl = 3 := by omega
  have hd' : dl = 0 ∨ dl = 1 ∨ dl = 2 ∨ dl = 3 ∨ dl = 4 := by omega
  clear fin hs hd h2 h3 hpl
  rcases hs' with rfl | rfl | rfl | rfl <;> rcases hd' with rfl | rfl | rfl | rfl | rfl
  · exact contr_0_0 fol chk ovr nn d xs
  · exact contr_0_1 fol chk ovr nn d xs
  · exact contr_0_2 fol chk ovr nn d xs
  · exact contr_0_3 fol chk ovr nn d xs
  · exact contr_0_4 fol chk ovr nn d xs
  · exact contr_1_0 fol chk ovr nn d xs
  · exact contr_1_1 fol chk ovr nn d xs
  · exact contr_1_2 fol chk ovr nn d xs
  · exact contr_1_3 fol chk ovr nn d xs
  · exact contr_1_4 fol chk ovr nn d xs
  · exact contr_2_0 fol chk ovr nn d xs
  · exact contr_2_1 fol chk ovr nn d xs
  · exact contr_2_2 fol chk ovr nn d xs
  · exact contr_2_3 fol chk ovr nn d xs
  · exact contr_2_4 fol chk ovr nn d xs
  · exact contr_3_0 fol chk ovr nn d xs
  · exact contr_3_1 fol chk ovr nn d xs
  · exact contr_3_2 fol chk ovr nn d xs
  · exact contr_3_3 fol chk ovr nn d xs
  · exact contr_3_4 fol chk ovr nn d xs
end Go.Proofs.Ytojlmpcbplepcaa
