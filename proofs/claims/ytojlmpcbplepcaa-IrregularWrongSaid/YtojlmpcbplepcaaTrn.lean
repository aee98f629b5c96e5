/- Chapter 9: with another dealer all seats are as many further. -/
import Derived.Test.YtojlmpcbplepcaaIr1
namespace Go.Proofs.Ytojlmpcbplepcaa
open Go Go.Eng
theorem fst_setF (s : St) (b : Bd) {k j : Nat} (hk : k < 10) (hj : j < 10) : (s.setF b k).fst j = if j = k then b else s.fst j := by
  have h1 : k = 0 ∨ k = 1 ∨ k = 2 ∨ k = 3 ∨ k = 4 ∨ k = 5 ∨ k = 6 ∨ k = 7 ∨ k = 8 ∨ k = 9 := by omega
  have h2 : j = 0 ∨ j = 1 ∨ j = 2 ∨ j = 3 ∨ j = 4 ∨ j = 5 ∨ j = 6 ∨ j = 7 ∨ j = 8 ∨ j = 9 := by omega
  rcases h1 with rfl | rfl | rfl | rfl | rfl | rfl | rfl | rfl | rfl | rfl <;> rcases h2 with rfl | rfl | rfl | rfl | rfl | rfl | rfl | rfl | rfl | rfl <;> rfl
theorem nx_is {t : Int} (h : 0 ≤ t ∧ t < 4) : nx t = (t + 1) % 4 := by
  unfold nx
  rw [wr_u8_id (by omega), Int.tmod_eq_emod_of_nonneg (by omega)]
theorem setF_risk (s : St) (b : Bd) (k : Nat) : (s.setF b k).risk = s.risk := by unfold St.setF; split <;> rfl
theorem setF_passes (s : St) (b : Bd) (k : Nat) : (s.setF b k).passes = s.passes := by unfold St.setF; split <;> rfl
/-- What a bid leaves. -/
structure Bids (s t : St) (c : Int) : Prop where
  b : t.b = newB s c (dnI c)
  turn : t.turn = nx s.turn
  risk : t.risk = 0
  passes : t.passes = 0
  f : ∀ j, j < 10 → t.fst j = if j = kOf s.turn (dnI c) ∧ (s.fst j).m = false then newB s c (dnI c) else s.fst j
theorem kOf_lt {t d : Int} (h : 0 ≤ d ∧ d < 5) : kOf t d < 10 := by unfold kOf; omega
theorem aft_bid {s : St} {c : Int} (h : isBid c = true) : Bids s (aft s c) c := by
  have hd := dn_range h
  have hk := kOf_lt (t := s.turn) hd
  have h3 : 3 ≤ c := by simp only [isBid, Bool.and_eq_true, decide_eq_true_eq] at h; exact h.1
  have e : aft s c = bif (s.fst (kOf s.turn (dnI c))).m then bidA s c (dnI c) 0 else (bidA s c (dnI c) 0).setF (newB s c (dnI c)) (kOf s.turn (dnI c)) := by
    unfold aft
    rw [decide_eq_false (show ¬ c = 0 by omega), decide_eq_false (show ¬ c = 1 by omega), decide_eq_false (show ¬ c = 2 by omega)]; rfl
  rw [e]
  cases hm : (s.fst (kOf s.turn (dnI c))).m with
  | true =>
    refine ⟨rfl, rfl, rfl, rfl, fun j hj => ?_⟩
    rw [if_neg (fun ⟨h1, h2⟩ => by rw [h1, hm] at h2; cases h2)]; rfl
  | false =>
    simp only [cond_false]
    refine ⟨by rw [setF_b]; rfl, by rw [setF_turn]; rfl, by rw [setF_risk]; rfl, by rw [setF_passes]; rfl, fun j hj => ?_⟩
    rw [fst_setF _ _ hk hj]
    by_cases hj2 : j = kOf s.turn (dnI c)
    · rw [if_pos hj2, if_pos ⟨hj2, by rw [hj2]; exact hm⟩]
    · rw [if_neg hj2, if_neg (fun ⟨h1, _⟩ => hj2 h1)]; rfl
def shB (y : Int) (b : Bd) : Bd := bif b.m then { b with s := (b.s + y) % 4 } else b
structure Rel (y : Int) (s t : St) : Prop where
  b : t.b = shB y s.b
  turn : t.turn = (s.turn + y) % 4
  risk : t.risk = s.risk
  passes : t.passes = s.passes
  f : ∀ sd dn : Nat, sd < 2 → dn < 5 → t.fst ((sd + y.toNat) % 2 * 5 + dn) = shB y (s.fst (sd * 5 + dn))
theorem shB_m (y : Int) (b : Bd) : (shB y b).m = b.m := by unfold shB; cases h : b.m <;> simp [h]
theorem shB_c (y : Int) (b : Bd) : (shB y b).c = b.c := by unfold shB; cases h : b.m <;> simp
theorem Rel.ovr {y : Int} {s t : St} (h : Rel y s t) : ovr t = ovr s := by
  unfold Go.Proofs.Ytojlmpcbplepcaa.ovr
  rw [h.b, h.passes, shB_m]
theorem par_shift {a t y : Int} (ha : 0 ≤ a ∧ a < 4) (ht : 0 ≤ t ∧ t < 4) (_hy : 0 ≤ y ∧ y < 4) : decide (((a + y) % 4).tmod 2 = ((t + y) % 4).tmod 2) = decide (a.tmod 2 = t.tmod 2) := by
  rw [Int.tmod_eq_emod_of_nonneg (by omega), Int.tmod_eq_emod_of_nonneg (by omega), Int.tmod_eq_emod_of_nonneg (by omega), Int.tmod_eq_emod_of_nonneg (by omega)]
  congr 1
  simp only [eq_iff_iff]
  omega
theorem Rel.chk {y : Int} {s t : St} (h : Rel y s t) (hy : 0 ≤ y ∧ y < 4) (hs : gS s) (c : Int) : chk t c = chk s c := by
  unfold Go.Proofs.Ytojlmpcbplepcaa.chk
  rw [h.ovr, h.risk, h.b, shB_m, shB_c]
  cases hm : s.b.m with
  | false => rfl
  | true =>
    have e : same2 t = same2 s := by
      unfold same2
      rw [h.b, h.turn]
      have : (shB y s.b).s = (s.b.s + y) % 4 := by unfold shB; rw [hm]; rfl
      rw [this]
      exact par_shift hs.2.1 hs.1 hy
    rw [e]
theorem newB_sh {y : Int} {s t : St} (h : Rel y s t) (c d : Int) : newB t c d = shB y (newB s c d) := by
  unfold newB shB
  rw [h.turn]; rfl
theorem Rel.aft {y : Int} {s t : St} (h : Rel y s t) (hy : 0 ≤ y ∧ y < 4) (hs : gS s) {c : Int} (hc : okC c = true) : Rel y (aft s c) (aft t c) := by
  have ht : 0 ≤ t.turn ∧ t.turn < 4 := by rw [h.turn]; omega
  have htn : nx t.turn = (nx s.turn + y) % 4 := by
    rw [nx_is ht, nx_is hs.1, h.turn]; omega
  simp only [okC, Bool.and_eq_true, decide_eq_true_eq] at hc
  have h4 : c = 0 ∨ (c = 1 ∨ c = 2) ∨ isBid c = true := by
    simp only [isBid, Bool.and_eq_true, decide_eq_true_eq]; omega
  rcases h4 with rfl | h4 | h4
  · rw [aft_pass, aft_pass]
    exact ⟨h.b, htn, h.risk, by show wr .i64 _ = wr .i64 _; rw [h.passes], h.f⟩
  · rw [aft_dbl h4, aft_dbl h4]
    exact ⟨h.b, htn, rfl, rfl, h.f⟩
  · obtain ⟨a1, a2, a3, a4, a5⟩ := aft_bid (s := s) h4
    obtain ⟨b1, b2, b3, b4, b5⟩ := aft_bid (s := t) h4
    have hd := dn_range h4
    refine ⟨by rw [b1, a1, newB_sh h], by rw [b2, a2, htn], by rw [b3, a3], by rw [b4, a4], fun sd dn hsd hdn => ?_⟩
    rw [b5 _ (by omega), a5 _ (by omega), h.f sd dn hsd hdn, shB_m, newB_sh h]
    have hk : ((sd + y.toNat) % 2 * 5 + dn = kOf t.turn (dnI c)) ↔ (sd * 5 + dn = kOf s.turn (dnI c)) := by
      unfold kOf
      rw [h.turn]
      have := hs.1
      omega
    by_cases hq : sd * 5 + dn = kOf s.turn (dnI c) ∧ (s.fst (sd * 5 + dn)).m = false
    · rw [if_pos hq, if_pos ⟨hk.2 hq.1, hq.2⟩]
    · rw [if_neg hq, if_neg (fun ⟨q1, q2⟩ => hq ⟨hk.1 q1, q2⟩)]
theorem fst0 (d : Int) (j : Nat) : (st0 d).fst j = bd0 := by unfold St.fst; split <;> rfl
theorem rel0 {y d : Int} (_hd : 0 ≤ d ∧ d < 4) (_hy : 0 ≤ y ∧ y < 4) : Rel y (st0 d) (st0 ((d + y) % 4)) :=
  ⟨rfl, rfl, rfl, rfl, fun sd dn _ _ => by rw [fst0, fst0]; rfl⟩
theorem flw_rel {y : Int} (hy : 0 ≤ y ∧ y < 4) : ∀ (l : List Int) (i : Nat) (s t : St), Rel y s t → gS s → allU l = true → (flw l i t).e = (flw l i s).e ∧ ((flw l i s).e = 0 → Rel y (flw l i s).s (flw l i t).s)
  | [], _, _, _, h, _, _ => ⟨rfl, fun _ => h⟩
  | c :: r, i, s, t, h, hs, hu => by
    simp only [allU, Bool.and_eq_true, decide_eq_true_eq] at hu
    simp only [flw]
    rw [h.chk hy hs c]
    by_cases hb : chk s c = 0
    · rw [decide_eq_true hb]
      have hc := chk_ok hb hu.1.1
      exact flw_rel hy r (i + 1) _ _ (h.aft hy hs hc) (gS_aft hs hc) hu.2
    · rw [decide_eq_false hb]
      exact ⟨rfl, fun he => absurd he hb⟩
theorem fol_rel {y d : Int} (hd : 0 ≤ d ∧ d < 4) (hy : 0 ≤ y ∧ y < 4) {l : List Int} (hu : allU l = true) : (fol ((d + y) % 4) l).e = (fol d l).e ∧ ((fol d l).e = 0 → Rel y (fol d l).s (fol ((d + y) % 4) l).s) := by
  unfold fol
  rw [decide_eq_false (show ¬ 3 < (d + y) % 4 by omega), decide_eq_false (show ¬ 3 < d by omega)]
  exact flw_rel hy l 0 _ _ (rel0 hd hy) (gS0 hd) hu
end Go.Proofs.Ytojlmpcbplepcaa
