/- Texts merged: Trn, Inv, Wro. -/
import Derived.Test.YtnhilofmafjdpaaDoorSem
/- Chapter 9: with another dealer all seats are as many further. -/
namespace Go.Proofs.YtnhilofmafjdpaaDoor
open Go Go.Eng
theorem fst_setF (s : St) (b : Bd) {k j : Nat} (hk : k < 10) (hj : j < 10) : (s.setF b k).fst j = if j = k then b else s.fst j := by
  have h1 : k = 0 ∨ k = 1 ∨ k = 2 ∨ k = 3 ∨ k = 4 ∨ k = 5 ∨ k = 6 ∨ k = 7 ∨ k = 8 ∨ k = 9 := by omega
  have h2 : j = 0 ∨ j = 1 ∨ j = 2 ∨ j = 3 ∨ j = 4 ∨ j = 5 ∨ j = 6 ∨ j = 7 ∨ j = 8 ∨ j = 9 := by omega
  rcases h1 with rfl | rfl | rfl | rfl | rfl | rfl | rfl | rfl | rfl | rfl <;> rcases h2 with rfl | rfl | rfl | rfl | rfl | rfl | rfl | rfl | rfl | rfl <;> rfl
theorem nx_is {t : Int} (h : 0 ≤ t ∧ t < 4) : nx t = (t + 1) % 4 := by
  unfold nx
  rw [wr_u8_id (by omega), Int.tmod_eq_emod_of_nonneg (by omega)]
theorem setF_risk (s : St) (b : Bd) (k : Nat) : (s.setF b k).risk = s.risk := by unfold St.setF; split <;> rfl
theorem setF_passes (s : St) (b : Bd) (k : Nat) : (s.setF b k).passes = s.passes := by unfold St.setF; split <;> rfl
/-- What a bid leaves. -/
structure Bids (s t : St) (c : Int) : Prop where
  b : t.b = newB s c (dnI c)
  turn : t.turn = nx s.turn
  risk : t.risk = 0
  passes : t.passes = 0
  f : ∀ j, j < 10 → t.fst j = if j = kOf s.turn (dnI c) ∧ (s.fst j).m = false then newB s c (dnI c) else s.fst j
theorem kOf_lt {t d : Int} (h : 0 ≤ d ∧ d < 5) : kOf t d < 10 := by unfold kOf; omega
theorem aft_bid {s : St} {c : Int} (h : isBid c = true) : Bids s (aft s c) c := by
  have hd := dn_range h
  have hk := kOf_lt (t := s.turn) hd
  have h3 : 3 ≤ c := by simp only [isBid, Bool.and_eq_true, decide_eq_true_eq] at h; exact h.1
  have e : aft s c = bif (s.fst (kOf s.turn (dnI c))).m then bidA s c (dnI c) 0 else (bidA s c (dnI c) 0).setF (newB s c (dnI c)) (kOf s.turn (dnI c)) := by
    unfold aft
    rw [decide_eq_false (show ¬ c = 0 by omega), decide_eq_false (show ¬ c = 1 by omega), decide_eq_false (show ¬ c = 2 by omega)]; rfl
  rw [e]
  cases hm : (s.fst (kOf s.turn (dnI c))).m with
  | true =>
    refine ⟨rfl, rfl, rfl, rfl, fun j hj => ?_⟩
    rw [if_neg (fun ⟨h1, h2⟩ => by rw [h1, hm] at h2; cases h2)]; rfl
  | false =>
    simp only [cond_false]
    refine ⟨by rw [setF_b]; rfl, by rw [setF_turn]; rfl, by rw [setF_risk]; rfl, by rw [setF_passes]; rfl, fun j hj => ?_⟩
    rw [fst_setF _ _ hk hj]
    by_cases hj2 : j = kOf s.turn (dnI c)
    · rw [if_pos hj2, if_pos ⟨hj2, by rw [hj2]; exact hm⟩]
    · rw [if_neg hj2, if_neg (fun ⟨h1, _⟩ => hj2 h1)]; rfl
def shB (y : Int) (b : Bd) : Bd := bif b.m then { b with s := (b.s + y) % 4 } else b
structure Rel (y : Int) (s t : St) : Prop where
  b : t.b = shB y s.b
  turn : t.turn = (s.turn + y) % 4
  risk : t.risk = s.risk
  passes : t.passes = s.passes
  f : ∀ sd dn : Nat, sd < 2 → dn < 5 → t.fst ((sd + y.toNat) % 2 * 5 + dn) = shB y (s.fst (sd * 5 + dn))
theorem shB_m (y : Int) (b : Bd) : (shB y b).m = b.m := by unfold shB; cases h : b.m <;> simp [h]
theorem shB_c (y : Int) (b : Bd) : (shB y b).c = b.c := by unfold shB; cases h : b.m <;> simp
theorem Rel.ovr {y : Int} {s t : St} (h : Rel y s t) : ovr t = ovr s := by
  unfold Go.Proofs.YtnhilofmafjdpaaDoor.ovr
  rw [h.b, h.passes, shB_m]
theorem par_shift {a t y : Int} (ha : 0 ≤ a ∧ a < 4) (ht : 0 ≤ t ∧ t < 4) (_hy : 0 ≤ y ∧ y < 4) : decide (((a + y) % 4).tmod 2 = ((t + y) % 4).tmod 2) = decide (a.tmod 2 = t.tmod 2) := by
  rw [Int.tmod_eq_emod_of_nonneg (by omega), Int.tmod_eq_emod_of_nonneg (by omega), Int.tmod_eq_emod_of_nonneg (by omega), Int.tmod_eq_emod_of_nonneg (by omega)]
  congr 1
  simp only [eq_iff_iff]
  omega
theorem Rel.chk {y : Int} {s t : St} (h : Rel y s t) (hy : 0 ≤ y ∧ y < 4) (hs : gS s) (c : Int) : chk t c = chk s c := by
  unfold Go.Proofs.YtnhilofmafjdpaaDoor.chk
  rw [h.ovr, h.risk, h.b, shB_m, shB_c]
  cases hm : s.b.m with
  | false => rfl
  | true =>
    have e : same2 t = same2 s := by
      unfold same2
      rw [h.b, h.turn]
      have : (shB y s.b).s = (s.b.s + y) % 4 := by unfold shB; rw [hm]; rfl
      rw [this]
      exact par_shift hs.2.1 hs.1 hy
    rw [e]
theorem newB_sh {y : Int} {s t : St} (h : Rel y s t) (c d : Int) : newB t c d = shB y (newB s c d) := by
  unfold newB shB
  rw [h.turn]; rfl
theorem Rel.aft {y : Int} {s t : St} (h : Rel y s t) (hy : 0 ≤ y ∧ y < 4) (hs : gS s) {c : Int} (hc : okC c = true) : Rel y (aft s c) (aft t c) := by
  have ht : 0 ≤ t.turn ∧ t.turn < 4 := by rw [h.turn]; omega
  have htn : nx t.turn = (nx s.turn + y) % 4 := by
    rw [nx_is ht, nx_is hs.1, h.turn]; omega
  simp only [okC, Bool.and_eq_true, decide_eq_true_eq] at hc
  have h4 : c = 0 ∨ (c = 1 ∨ c = 2) ∨ isBid c = true := by
    simp only [isBid, Bool.and_eq_true, decide_eq_true_eq]; omega
  rcases h4 with rfl | h4 | h4
  · rw [aft_pass, aft_pass]
    exact ⟨h.b, htn, h.risk, by show wr .i64 _ = wr .i64 _; rw [h.passes], h.f⟩
  · rw [aft_dbl h4, aft_dbl h4]
    exact ⟨h.b, htn, rfl, rfl, h.f⟩
  · obtain ⟨a1, a2, a3, a4, a5⟩ := aft_bid (s := s) h4
    obtain ⟨b1, b2, b3, b4, b5⟩ := aft_bid (s := t) h4
    have hd := dn_range h4
    refine ⟨by rw [b1, a1, newB_sh h], by rw [b2, a2, htn], by rw [b3, a3], by rw [b4, a4], fun sd dn hsd hdn => ?_⟩
    rw [b5 _ (by omega), a5 _ (by omega), h.f sd dn hsd hdn, shB_m, newB_sh h]
    have hk : ((sd + y.toNat) % 2 * 5 + dn = kOf t.turn (dnI c)) ↔ (sd * 5 + dn = kOf s.turn (dnI c)) := by
      unfold kOf
      rw [h.turn]
      have := hs.1
      omega
    by_cases hq : sd * 5 + dn = kOf s.turn (dnI c) ∧ (s.fst (sd * 5 + dn)).m = false
    · rw [if_pos hq, if_pos ⟨hk.2 hq.1, hq.2⟩]
    · rw [if_neg hq, if_neg (fun ⟨q1, q2⟩ => hq ⟨hk.1 q1, q2⟩)]
theorem fst0 (d : Int) (j : Nat) : (st0 d).fst j = bd0 := by unfold St.fst; split <;> rfl
theorem rel0 {y d : Int} (_hd : 0 ≤ d ∧ d < 4) (_hy : 0 ≤ y ∧ y < 4) : Rel y (st0 d) (st0 ((d + y) % 4)) :=
  ⟨rfl, rfl, rfl, rfl, fun sd dn _ _ => by rw [fst0, fst0]; rfl⟩
theorem flw_rel {y : Int} (hy : 0 ≤ y ∧ y < 4) : ∀ (l : List Int) (i : Nat) (s t : St), Rel y s t → gS s → allU l = true → (flw l i t).e = (flw l i s).e ∧ ((flw l i s).e = 0 → Rel y (flw l i s).s (flw l i t).s)
  | [], _, _, _, h, _, _ => ⟨rfl, fun _ => h⟩
  | c :: r, i, s, t, h, hs, hu => by
    simp only [allU, Bool.and_eq_true, decide_eq_true_eq] at hu
    simp only [flw]
    rw [h.chk hy hs c]
    by_cases hb : chk s c = 0
    · rw [decide_eq_true hb]
      have hc := chk_ok hb hu.1.1
      exact flw_rel hy r (i + 1) _ _ (h.aft hy hs hc) (gS_aft hs hc) hu.2
    · rw [decide_eq_false hb]
      exact ⟨rfl, fun he => absurd he hb⟩
theorem fol_rel {y d : Int} (hd : 0 ≤ d ∧ d < 4) (hy : 0 ≤ y ∧ y < 4) {l : List Int} (hu : allU l = true) : (fol ((d + y) % 4) l).e = (fol d l).e ∧ ((fol d l).e = 0 → Rel y (fol d l).s (fol ((d + y) % 4) l).s) := by
  unfold fol
  rw [decide_eq_false (show ¬ 3 < (d + y) % 4 by omega), decide_eq_false (show ¬ 3 < d by omega)]
  exact flw_rel hy l 0 _ _ (rel0 hd hy) (gS0 hd) hu
end Go.Proofs.YtnhilofmafjdpaaDoor

/- Chapter 9: what holds of every state of a right auction. -/
namespace Go.Proofs.YtnhilofmafjdpaaDoor
open Go Go.Eng
/-- A bid as it is noted. -/
def gB (b : Bd) : Prop := isBid b.c = true ∧ b.l = lvI b.c ∧ b.d = dnI b.c ∧ (0 ≤ b.s ∧ b.s < 4)
structure Inv (s : St) : Prop where
  g : gS s
  b : s.b.m = true → gB s.b ∧ (s.fst (kOf s.b.s s.b.d)).m = true
  f : ∀ j, j < 10 → (s.fst j).m = true → gB (s.fst j) ∧ kOf (s.fst j).s (s.fst j).d = j
  risk : 0 ≤ s.risk ∧ s.risk ≤ 2
theorem inv0 {d : Int} (h : 0 ≤ d ∧ d < 4) : Inv (st0 d) :=
  ⟨gS0 h, (fun h => by cases h), fun j _ hm => (by rw [fst0] at hm; cases hm), ⟨by show (0 : Int) ≤ 0; omega, by show (0 : Int) ≤ 2; omega⟩⟩
theorem inv_aft {s : St} {c : Int} (h : Inv s) (hc : okC c = true) : Inv (aft s c) := by
  have hg := gS_aft h.g hc
  have hc' := hc
  simp only [okC, Bool.and_eq_true, decide_eq_true_eq] at hc
  have h4 : c = 0 ∨ (c = 1 ∨ c = 2) ∨ isBid c = true := by
    simp only [isBid, Bool.and_eq_true, decide_eq_true_eq]; omega
  rcases h4 with rfl | h4 | h4
  · rw [aft_pass] at hg ⊢; exact ⟨hg, h.b, h.f, h.risk⟩
  · rw [aft_dbl h4] at hg ⊢; exact ⟨hg, h.b, h.f, by show 0 ≤ c ∧ c ≤ 2; omega⟩
  · obtain ⟨a1, a2, a3, a4, a5⟩ := aft_bid (s := s) h4
    have hd := dn_range h4
    have hk := kOf_lt (t := s.turn) hd
    have hn : gB (newB s c (dnI c)) := ⟨h4, rfl, rfl, h.g.1⟩
    refine ⟨hg, fun _ => ?_, fun j hj hm => ?_, by rw [a3]; omega⟩
    · rw [a1]
      refine ⟨hn, ?_⟩
      show ((aft s c).fst (kOf s.turn (dnI c))).m = true
      rw [a5 _ hk]
      by_cases hq : (s.fst (kOf s.turn (dnI c))).m = false
      · rw [if_pos ⟨rfl, hq⟩]; rfl
      · rw [if_neg (fun ⟨_, q⟩ => hq q)]; simpa using hq
    · rw [a5 j hj] at hm ⊢
      by_cases hq : j = kOf s.turn (dnI c) ∧ (s.fst j).m = false
      · rw [if_pos hq] at hm ⊢; exact ⟨hn, hq.1.symm⟩
      · rw [if_neg hq] at hm ⊢; exact h.f j hj hm
theorem inv_flw : ∀ (l : List Int) (i : Nat) (s : St), Inv s → allU l = true → (flw l i s).e = 0 → Inv (flw l i s).s
  | [], _, _, h, _, _ => h
  | c :: r, i, s, h, hu, he => by
    simp only [allU, Bool.and_eq_true, decide_eq_true_eq] at hu
    unfold flw at he ⊢
    by_cases hb : chk s c = 0
    · rw [decide_eq_true hb] at he ⊢
      exact inv_flw r (i + 1) _ (inv_aft h (chk_ok hb hu.1.1)) hu.2 he
    · rw [decide_eq_false hb] at he; exact absurd he hb
theorem inv_fol {d : Int} {l : List Int} (h : okA d l = true) (he : (fol d l).e = 0) : Inv (fol d l).s := by
  have hd := fol_d he
  have hu := okA_U h
  simp only [okA, Bool.and_eq_true, decide_eq_true_eq] at h
  unfold fol at he ⊢
  rw [decide_eq_false (show ¬ 3 < d by omega)] at he ⊢
  exact inv_flw l 0 _ (inv0 (by omega)) hu he
theorem lv_is {c : Int} (h : isBid c = true) : lvI c = (c - 3) / 5 + 1 := by
  simp only [isBid, Bool.and_eq_true, decide_eq_true_eq] at h
  unfold lvI
  have e1 : wr .u8 (c - 3) = c - 3 := wr_u8_id (by omega)
  have e2 : (c - 3).tdiv 5 = (c - 3) / 5 := Int.tdiv_eq_ediv_of_nonneg (by omega)
  rw [e1, e2, wr_u8_id (n := (c - 3) / 5) (by omega), wr_u8_id (by omega)]
theorem dn_is {c : Int} (h : isBid c = true) : dnI c = (c - 3) % 5 := by
  simp only [isBid, Bool.and_eq_true, decide_eq_true_eq] at h
  unfold dnI
  rw [wr_u8_id (by omega), Int.tmod_eq_emod_of_nonneg (by omega)]
theorem lv_pos {c : Int} (h : isBid c = true) : 1 ≤ lvI c ∧ lvI c ≤ 7 := by
  rw [lv_is h]
  simp only [isBid, Bool.and_eq_true, decide_eq_true_eq] at h
  omega
end Go.Proofs.YtnhilofmafjdpaaDoor

/- Chapter 9: what is not right: plainly. -/
namespace Go.Proofs.YtnhilofmafjdpaaDoor
open Go Go.Eng
/-- A call that is not legal, behind a right list, and whatever comes then. -/
theorem fol_bad {d c : Int} {l : List Int} (h : (fol d l).e = 0) (hc : chk (fol d l).s c ≠ 0) (r : List Int) : (fol d (l ++ c :: r)).e = chk (fol d l).s c ∧ (fol d (l ++ c :: r)).at_ = (l.length : Int) := by
  rw [fol_app h]
  unfold flw
  rw [decide_eq_false hc]; exact ⟨rfl, rfl⟩
theorem fol_high {d : Int} (h : 3 < d) (l : List Int) : fol d l = ⟨st0 0, st0 0, -1, 2⟩ := by
  unfold fol
  rw [decide_eq_true h]; rfl
theorem lastN_some {xs : List Int} : ∀ n, (lastN xs n).2 = true → ∃ k, k < n ∧ (lastN xs n).1 = (k : Int) ∧ isBid (xs.getD k 0) = true ∧ ∀ j, k < j → j < n → isBid (xs.getD j 0) = false
  | 0, h => by cases h
  | n + 1, h => by
    unfold lastN at h ⊢
    cases hb : isBid (xs.getD n 0) with
    | true => exact ⟨n, by omega, rfl, hb, fun j h1 h2 => by omega⟩
    | false =>
      rw [hb] at h
      obtain ⟨k, h1, h2, h3, h4⟩ := lastN_some n h
      refine ⟨k, by omega, h2, h3, fun j h5 h6 => ?_⟩
      by_cases hj : j = n
      · rw [hj]; exact hb
      · exact h4 j h5 (by omega)
theorem lastN_none {xs : List Int} : ∀ n, (lastN xs n).2 = false → ∀ j, j < n → isBid (xs.getD j 0) = false
  | 0, _, j, hj => by omega
  | n + 1, h, j, hj => by
    unfold lastN at h
    cases hb : isBid (xs.getD n 0) with
    | true => rw [hb] at h; cases h
    | false =>
      rw [hb] at h
      by_cases e : j = n
      · rw [e]; exact hb
      · exact lastN_none n h j (by omega)
theorem aft_bc {s : St} {c : Int} (h : isBid c = true) : (aft s c).b.c = c ∧ (aft s c).b.m = true ∧ (aft s c).passes = 0 := by
  obtain ⟨a1, _, _, a4, _⟩ := aft_bid (s := s) h
  rw [a1, a4]; exact ⟨rfl, rfl, rfl⟩
/-- Behind a bid one that is not greater is not legal. -/
theorem chk_low {s : St} {c x : Int} (h : isBid c = true) (hx : 3 ≤ x ∧ x ≤ c) : chk (aft s c) x = 2 := by
  obtain ⟨h1, h2, h3⟩ := aft_bc (s := s) h
  simp only [isBid, Bool.and_eq_true, decide_eq_true_eq] at h
  have ho : ovr (aft s c) = false := by unfold ovr; rw [h2, h3]; rfl
  unfold chk
  rw [ho, h1, decide_eq_true (show x ≤ 37 by omega), decide_eq_false (show ¬ x = 0 by omega), decide_eq_false (show ¬ x = 1 by omega), decide_eq_false (show ¬ x = 2 by omega), decide_eq_false (show ¬ c < x by omega)]; rfl
theorem take_snoc {xs : List Int} {k : Nat} (h : k < xs.length) : xs.take (k + 1) = xs.take k ++ [xs.getD k 0] := by
  rw [List.take_succ_eq_append_getElem h, List.getD_eq_getElem?_getD, List.getElem?_eq_getElem h]; rfl
theorem fol_take {d : Int} {xs : List Int} (h : (fol d xs).e = 0) (k : Nat) : (fol d (xs.take k)).e = 0 := by
  rw [← List.take_append_drop k xs] at h
  exact fol_pre h
theorem fol_low {d x : Int} {xs : List Int} {k : Nat} (h : (fol d xs).e = 0) (hk : k < xs.length) (hb : isBid (xs.getD k 0) = true) (hx : 3 ≤ x ∧ x ≤ xs.getD k 0) : (fol d (xs.take (k + 1) ++ [x])).e = 2 ∧ (fol d (xs.take (k + 1) ++ [x])).at_ = ((k + 1 : Nat) : Int) := by
  have h1 := fol_take h (k + 1)
  have h2 := fol_take h k
  have hs : (fol d (xs.take (k + 1))).s = aft (fol d (xs.take k)).s (xs.getD k 0) := by
    rw [take_snoc hk] at h1 ⊢
    rw [fol_snoc h2] at h1 ⊢
    by_cases hc : chk (fol d (xs.take k)).s (xs.getD k 0) = 0
    · rw [decide_eq_true hc]; rfl
    · rw [decide_eq_false hc] at h1; exact absurd h1 hc
  have hc : chk (fol d (xs.take (k + 1))).s x = 2 := by rw [hs]; exact chk_low hb hx
  obtain ⟨e1, e2⟩ := fol_bad h1 (by rw [hc]; omega : chk (fol d (xs.take (k + 1))).s x ≠ 0) []
  rw [hc] at e1
  refine ⟨e1, ?_⟩
  rw [e2, List.length_take]
  congr 1
  omega
end Go.Proofs.YtnhilofmafjdpaaDoor
