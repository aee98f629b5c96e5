/- Chapter 9: what holds of every state of a right auction. -/
import Derived.Test.YtojlmpcbplepcaaTrn
namespace Go.Proofs.Ytojlmpcbplepcaa
open Go Go.Eng
/-- A bid as it is noted. -/
def gB (b : Bd) : Prop := isBid b.c = true ∧ b.l = lvI b.c ∧ b.d = dnI b.c ∧ (0 ≤ b.s ∧ b.s < 4)
structure Inv (s : St) : Prop where
  g : gS s
  b : s.b.m = true → gB s.b ∧ (s.fst (kOf s.b.s s.b.d)).m = true
  f : ∀ j, j < 10 → (s.fst j).m = true → gB (s.fst j) ∧ kOf (s.fst j).s (s.fst j).d = j
  risk : 0 ≤ s.risk ∧ s.risk ≤ 2
theorem inv0 {d : Int} (h : 0 ≤ d ∧ d < 4) : Inv (st0 d) :=
  ⟨gS0 h, (fun h => by cases h), fun j _ hm => (by rw [fst0] at hm; cases hm), ⟨by show (0 : Int) ≤ 0; omega, by show (0 : Int) ≤ 2; omega⟩⟩
theorem inv_aft {s : St} {c : Int} (h : Inv s) (hc : okC c = true) : Inv (aft s c) := by
  have hg := gS_aft h.g hc
  have hc' := hc
  simp only [okC, Bool.and_eq_true, decide_eq_true_eq] at hc
  have h4 : c = 0 ∨ (c = 1 ∨ c = 2) ∨ isBid c = true := by
    simp only [isBid, Bool.and_eq_true, decide_eq_true_eq]; omega
  rcases h4 with rfl | h4 | h4
  · rw [aft_pass] at hg ⊢; exact ⟨hg, h.b, h.f, h.risk⟩
  · rw [aft_dbl h4] at hg ⊢; exact ⟨hg, h.b, h.f, by show 0 ≤ c ∧ c ≤ 2; omega⟩
  · obtain ⟨a1, a2, a3, a4, a5⟩ := aft_bid (s := s) h4
    have hd := dn_range h4
    have hk := kOf_lt (t := s.turn) hd
    have hn : gB (newB s c (dnI c)) := ⟨h4, rfl, rfl, h.g.1⟩
    refine ⟨hg, fun _ => ?_, fun j hj hm => ?_, by rw [a3]; omega⟩
    · rw [a1]
      refine ⟨hn, ?_⟩
      show ((aft s c).fst (kOf s.turn (dnI c))).m = true
      rw [a5 _ hk]
      by_cases hq : (s.fst (kOf s.turn (dnI c))).m = false
      · rw [if_pos ⟨rfl, hq⟩]; rfl
      · rw [if_neg (fun ⟨_, q⟩ => hq q)]; simpa using hq
    · rw [a5 j hj] at hm ⊢
      by_cases hq : j = kOf s.turn (dnI c) ∧ (s.fst j).m = false
      · rw [if_pos hq] at hm ⊢; exact ⟨hn, hq.1.symm⟩
      · rw [if_neg hq] at hm ⊢; exact h.f j hj hm
theorem inv_flw : ∀ (l : List Int) (i : Nat) (s : St), Inv s → allU l = true → (flw l i s).e = 0 → Inv (flw l i s).s
  | [], _, _, h, _, _ => h
  | c :: r, i, s, h, hu, he => by
    simp only [allU, Bool.and_eq_true, decide_eq_true_eq] at hu
    unfold flw at he ⊢
    by_cases hb : chk s c = 0
    · rw [decide_eq_true hb] at he ⊢
      exact inv_flw r (i + 1) _ (inv_aft h (chk_ok hb hu.1.1)) hu.2 he
    · rw [decide_eq_false hb] at he; exact absurd he hb
theorem inv_fol {d : Int} {l : List Int} (h : okA d l = true) (he : (fol d l).e = 0) : Inv (fol d l).s := by
  have hd := fol_d he
  have hu := okA_U h
  simp only [okA, Bool.and_eq_true, decide_eq_true_eq] at h
  unfold fol at he ⊢
  rw [decide_eq_false (show ¬ 3 < d by omega)] at he ⊢
  exact inv_flw l 0 _ (inv0 (by omega)) hu he
theorem lv_is {c : Int} (h : isBid c = true) : lvI c = (c - 3) / 5 + 1 := by
  simp only [isBid, Bool.and_eq_true, decide_eq_true_eq] at h
  unfold lvI
  have e1 : wr .u8 (c - 3) = c - 3 := wr_u8_id (by omega)
  have e2 : (c - 3).tdiv 5 = (c - 3) / 5 := Int.tdiv_eq_ediv_of_nonneg (by omega)
  rw [e1, e2, wr_u8_id (n := (c - 3) / 5) (by omega), wr_u8_id (by omega)]
theorem dn_is {c : Int} (h : isBid c = true) : dnI c = (c - 3) % 5 := by
  simp only [isBid, Bool.and_eq_true, decide_eq_true_eq] at h
  unfold dnI
  rw [wr_u8_id (by omega), Int.tmod_eq_emod_of_nonneg (by omega)]
theorem lv_pos {c : Int} (h : isBid c = true) : 1 ≤ lvI c ∧ lvI c ≤ 7 := by
  rw [lv_is h]
  simp only [isBid, Bool.and_eq_true, decide_eq_true_eq] at h
  omega
end Go.Proofs.Ytojlmpcbplepcaa
