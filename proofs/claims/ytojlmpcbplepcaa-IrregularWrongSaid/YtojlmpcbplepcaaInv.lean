/- Texts merged: Inv, Wro. -/
import Derived.Test.YtojlmpcbplepcaaTrn
/- Chapter 9: what holds of every state of a right auction. -/
namespace Go.Proofs.Ytojlmpcbplepcaa
open Go Go.Eng
/-- A bid as it is noted. -/
def gB (b : Bd) : Prop := isBid b.c = true ∧ b.l = lvI b.c ∧ b.d = dnI b.c ∧ (0 ≤ b.s ∧ b.s < 4)
structure Inv (s : St) : Prop where
  g : gS s
  b : s.b.m = true → gB s.b ∧ (s.fst (kOf s.b.s s.b.d)).m = true
  f : ∀ j, j < 10 → (s.fst j).m = true → gB (s.fst j) ∧ kOf (s.fst j).s (s.fst j).d = j
  risk : 0 ≤ s.risk ∧ s.risk ≤ 2
theorem inv0 {d : Int} (h : 0 ≤ d ∧ d < 4) : Inv (st0 d) :=
  ⟨gS0 h, (fun h => by cases h), fun j _ hm => (by rw [fst0] at hm; cases hm), ⟨by show (0 : Int) ≤ 0; omega, by show (0 : Int) ≤ 2; omega⟩⟩
theorem inv_aft {s : St} {c : Int} (h : Inv s) (hc : okC c = true) : Inv (aft s c) := by
  have hg := gS_aft h.g hc
  have hc' := hc
  simp only [okC, Bool.and_eq_true, decide_eq_true_eq] at hc
  have h4 : c = 0 ∨ (c = 1 ∨ c = 2) ∨ isBid c = true := by
    simp only [isBid, Bool.and_eq_true, decide_eq_true_eq]; omega
  rcases h4 with rfl | h4 | h4
  · rw [aft_pass] at hg ⊢; exact ⟨hg, h.b, h.f, h.risk⟩
  · rw [aft_dbl h4] at hg ⊢; exact ⟨hg, h.b, h.f, by show 0 ≤ c ∧ c ≤ 2; omega⟩
  · obtain ⟨a1, a2, a3, a4, a5⟩ := aft_bid (s := s) h4
    have hd := dn_range h4
    have hk := kOf_lt (t := s.turn) hd
    have hn : gB (newB s c (dnI c)) := ⟨h4, rfl, rfl, h.g.1⟩
    refine ⟨hg, fun _ => ?_, fun j hj hm => ?_, by rw [a3]; omega⟩
    · rw [a1]
      refine ⟨hn, ?_⟩
      show ((aft s c).fst (kOf s.turn (dnI c))).m = true
      rw [a5 _ hk]
      by_cases hq : (s.fst (kOf s.turn (dnI c))).m = false
      · rw [if_pos ⟨rfl, hq⟩]; rfl
      · rw [if_neg (fun ⟨_, q⟩ => hq q)]; simpa using hq
    · rw [a5 j hj] at hm ⊢
      by_cases hq : j = kOf s.turn (dnI c) ∧ (s.fst j).m = false
      · rw [if_pos hq] at hm ⊢; exact ⟨hn, hq.1.symm⟩
      · rw [if_neg hq] at hm ⊢; exact h.f j hj hm
theorem inv_flw : ∀ (l : List Int) (i : Nat) (s : St), Inv s → allU l = true → (flw l i s).e = 0 → Inv (flw l i s).s
  | [], _, _, h, _, _ => h
  | c :: r, i, s, h, hu, he => by
    simp only [allU, Bool.and_eq_true, decide_eq_true_eq] at hu
    unfold flw at he ⊢
    by_cases hb : chk s c = 0
    · rw [decide_eq_true hb] at he ⊢
      exact inv_flw r (i + 1) _ (inv_aft h (chk_ok hb hu.1.1)) hu.2 he
    · rw [decide_eq_false hb] at he; exact absurd he hb
theorem inv_fol {d : Int} {l : List Int} (h : okA d l = true) (he : (fol d l).e = 0) : Inv (fol d l).s := by
  have hd := fol_d he
  have hu := okA_U h
  simp only [okA, Bool.and_eq_true, decide_eq_true_eq] at h
  unfold fol at he ⊢
  rw [decide_eq_false (show ¬ 3 < d by omega)] at he ⊢
  exact inv_flw l 0 _ (inv0 (by omega)) hu he
theorem lv_is {c : Int} (h : isBid c = true) : lvI c = (c - 3) / 5 + 1 := by
  simp only [isBid, Bool.and_eq_true, decide_eq_true_eq] at h
  unfold lvI
  have e1 : wr .u8 (c - 3) = c - 3 := wr_u8_id (by omega)
  have e2 : (c - 3).tdiv 5 = (c - 3) / 5 := Int.tdiv_eq_ediv_of_nonneg (by omega)
  rw [e1, e2, wr_u8_id (n := (c - 3) / 5) (by omega), wr_u8_id (by omega)]
theorem dn_is {c : Int} (h : isBid c = true) : dnI c = (c - 3) % 5 := by
  simp only [isBid, Bool.and_eq_true, decide_eq_true_eq] at h
  unfold dnI
  rw [wr_u8_id (by omega), Int.tmod_eq_emod_of_nonneg (by omega)]
theorem lv_pos {c : Int} (h : isBid c = true) : 1 ≤ lvI c ∧ lvI c ≤ 7 := by
  rw [lv_is h]
  simp only [isBid, Bool.and_eq_true, decide_eq_true_eq] at h
  omega
end Go.Proofs.Ytojlmpcbplepcaa

/- Chapter 9: what is not right: plainly. -/
namespace Go.Proofs.Ytojlmpcbplepcaa
open Go Go.Eng
/-- A call that is not legal, behind a right list, and whatever comes then. -/
theorem fol_bad {d c : Int} {l : List Int} (h : (fol d l).e = 0) (hc : chk (fol d l).s c ≠ 0) (r : List Int) : (fol d (l ++ c :: r)).e = chk (fol d l).s c ∧ (fol d (l ++ c :: r)).at_ = (l.length : Int) := by
  rw [fol_app h]
  unfold flw
  rw [decide_eq_false hc]; exact ⟨rfl, rfl⟩
theorem fol_high {d : Int} (h : 3 < d) (l : List Int) : fol d l = ⟨st0 0, st0 0, -1, 2⟩ := by
  unfold fol
  rw [decide_eq_true h]; rfl
theorem lastN_some {xs : List Int} : ∀ n, (lastN xs n).2 = true → ∃ k, k < n ∧ (lastN xs n).1 = (k : Int) ∧ isBid (xs.getD k 0) = true ∧ ∀ j, k < j → j < n → isBid (xs.getD j 0) = false
  | 0, h => by cases h
  | n + 1, h => by
    unfold lastN at h ⊢
    cases hb : isBid (xs.getD n 0) with
    | true => exact ⟨n, by omega, rfl, hb, fun j h1 h2 => by omega⟩
    | false =>
      rw [hb] at h
      obtain ⟨k, h1, h2, h3, h4⟩ := lastN_some n h
      refine ⟨k, by omega, h2, h3, fun j h5 h6 => ?_⟩
      by_cases hj : j = n
      · rw [hj]; exact hb
      · exact h4 j h5 (by omega)
theorem lastN_none {xs : List Int} : ∀ n, (lastN xs n).2 = false → ∀ j, j < n → isBid (xs.getD j 0) = false
  | 0, _, j, hj => by omega
  | n + 1, h, j, hj => by
    unfold lastN at h
    cases hb : isBid (xs.getD n 0) with
    | true => rw [hb] at h; cases h
    | false =>
      rw [hb] at h
      by_cases e : j = n
      · rw [e]; exact hb
      · exact lastN_none n h j (by omega)
theorem aft_bc {s : St} {c : Int} (h : isBid c = true) : (aft s c).b.c = c ∧ (aft s c).b.m = true ∧ (aft s c).passes = 0 := by
  obtain ⟨a1, _, _, a4, _⟩ := aft_bid (s := s) h
  rw [a1, a4]; exact ⟨rfl, rfl, rfl⟩
/-- Behind a bid one that is not greater is not legal. -/
theorem chk_low {s : St} {c x : Int} (h : isBid c = true) (hx : 3 ≤ x ∧ x ≤ c) : chk (aft s c) x = 2 := by
  obtain ⟨h1, h2, h3⟩ := aft_bc (s := s) h
  simp only [isBid, Bool.and_eq_true, decide_eq_true_eq] at h
  have ho : ovr (aft s c) = false := by unfold ovr; rw [h2, h3]; rfl
  unfold chk
  rw [ho, h1, decide_eq_true (show x ≤ 37 by omega), decide_eq_false (show ¬ x = 0 by omega), decide_eq_false (show ¬ x = 1 by omega), decide_eq_false (show ¬ x = 2 by omega), decide_eq_false (show ¬ c < x by omega)]; rfl
theorem take_snoc {xs : List Int} {k : Nat} (h : k < xs.length) : xs.take (k + 1) = xs.take k ++ [xs.getD k 0] := by
  rw [List.take_succ_eq_append_getElem h, List.getD_eq_getElem?_getD, List.getElem?_eq_getElem h]; rfl
theorem fol_take {d : Int} {xs : List Int} (h : (fol d xs).e = 0) (k : Nat) : (fol d (xs.take k)).e = 0 := by
  rw [← List.take_append_drop k xs] at h
  exact fol_pre h
theorem fol_low {d x : Int} {xs : List Int} {k : Nat} (h : (fol d xs).e = 0) (hk : k < xs.length) (hb : isBid (xs.getD k 0) = true) (hx : 3 ≤ x ∧ x ≤ xs.getD k 0) : (fol d (xs.take (k + 1) ++ [x])).e = 2 ∧ (fol d (xs.take (k + 1) ++ [x])).at_ = ((k + 1 : Nat) : Int) := by
  have h1 := fol_take h (k + 1)
  have h2 := fol_take h k
  have hs : (fol d (xs.take (k + 1))).s = aft (fol d (xs.take k)).s (xs.getD k 0) := by
    rw [take_snoc hk] at h1 ⊢
    rw [fol_snoc h2] at h1 ⊢
    by_cases hc : chk (fol d (xs.take k)).s (xs.getD k 0) = 0
    · rw [decide_eq_true hc]; rfl
    · rw [decide_eq_false hc] at h1; exact absurd h1 hc
  have hc : chk (fol d (xs.take (k + 1))).s x = 2 := by rw [hs]; exact chk_low hb hx
  obtain ⟨e1, e2⟩ := fol_bad h1 (by rw [hc]; omega : chk (fol d (xs.take (k + 1))).s x ≠ 0) []
  rw [hc] at e1
  refine ⟨e1, ?_⟩
  rw [e2, List.length_take]
  congr 1
  omega
end Go.Proofs.Ytojlmpcbplepcaa
