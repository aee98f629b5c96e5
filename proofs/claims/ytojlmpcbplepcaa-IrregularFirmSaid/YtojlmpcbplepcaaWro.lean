/- Chapter 9: what is not right: plainly. -/
import Derived.Test.YtojlmpcbplepcaaInv
namespace Go.Proofs.Ytojlmpcbplepcaa
open Go Go.Eng
/-- A call that is not legal, behind a right list, and whatever comes then. -/
theorem fol_bad {d c : Int} {l : List Int} (h : (fol d l).e = 0) (hc : chk (fol d l).s c ≠ 0) (r : List Int) : (fol d (l ++ c :: r)).e = chk (fol d l).s c ∧ (fol d (l ++ c :: r)).at_ = (l.length : Int) := by
  rw [fol_app h]
  unfold flw
  rw [decide_eq_false hc]; exact ⟨rfl, rfl⟩
theorem fol_high {d : Int} (h : 3 < d) (l : List Int) : fol d l = ⟨st0 0, st0 0, -1, 2⟩ := by
  unfold fol
  rw [decide_eq_true h]; rfl
theorem lastN_some {xs : List Int} : ∀ n, (lastN xs n).2 = true → ∃ k, k < n ∧ (lastN xs n).1 = (k : Int) ∧ isBid (xs.getD k 0) = true ∧ ∀ j, k < j → j < n → isBid (xs.getD j 0) = false
  | 0, h => by cases h
  | n + 1, h => by
    unfold lastN at h ⊢
    cases hb : isBid (xs.getD n 0) with
    | true => exact ⟨n, by omega, rfl, hb, fun j h1 h2 => by omega⟩
    | false =>
      rw [hb] at h
      obtain ⟨k, h1, h2, h3, h4⟩ := lastN_some n h
      refine ⟨k, by omega, h2, h3, fun j h5 h6 => ?_⟩
      by_cases hj : j = n
      · rw [hj]; exact hb
      · exact h4 j h5 (by omega)
theorem lastN_none {xs : List Int} : ∀ n, (lastN xs n).2 = false → ∀ j, j < n → isBid (xs.getD j 0) = false
  | 0, _, j, hj => by omega
  | n + 1, h, j, hj => by
    unfold lastN at h
    cases hb : isBid (xs.getD n 0) with
    | true => rw [hb] at h; cases h
    | false =>
      rw [hb] at h
      by_cases e : j = n
      · rw [e]; exact hb
      · exact lastN_none n h j (by omega)
theorem aft_bc {s : St} {c : Int} (h : isBid c = true) : (aft s c).b.c = c ∧ (aft s c).b.m = true ∧ (aft s c).passes = 0 := by
  obtain ⟨a1, _, _, a4, _⟩ := aft_bid (s := s) h
  rw [a1, a4]; exact ⟨rfl, rfl, rfl⟩
/-- Behind a bid one that is not greater is not legal. -/
theorem chk_low {s : St} {c x : Int} (h : isBid c = true) (hx : 3 ≤ x ∧ x ≤ c) : chk (aft s c) x = 2 := by
  obtain ⟨h1, h2, h3⟩ := aft_bc (s := s) h
  simp only [isBid, Bool.and_eq_true, decide_eq_true_eq] at h
  have ho : ovr (aft s c) = false := by unfold ovr; rw [h2, h3]; rfl
  unfold chk
  rw [ho, h1, decide_eq_true (show x ≤ 37 by omega), decide_eq_false (show ¬ x = 0 by omega), decide_eq_false (show ¬ x = 1 by omega), decide_eq_false (show ¬ x = 2 by omega), decide_eq_false (show ¬ c < x by omega)]; rfl
theorem take_snoc {xs : List Int} {k : Nat} (h : k < xs.length) : xs.take (k + 1) = xs.take k ++ [xs.getD k 0] := by
  rw [List.take_succ_eq_append_getElem h, List.getD_eq_getElem?_getD, List.getElem?_eq_getElem h]; rfl
theorem fol_take {d : Int} {xs : List Int} (h : (fol d xs).e = 0) (k : Nat) : (fol d (xs.take k)).e = 0 := by
  rw [← List.take_append_drop k xs] at h
  exact fol_pre h
theorem fol_low {d x : Int} {xs : List Int} {k : Nat} (h : (fol d xs).e = 0) (hk : k < xs.length) (hb : isBid (xs.getD k 0) = true) (hx : 3 ≤ x ∧ x ≤ xs.getD k 0) : (fol d (xs.take (k + 1) ++ [x])).e = 2 ∧ (fol d (xs.take (k + 1) ++ [x])).at_ = ((k + 1 : Nat) : Int) := by
  have h1 := fol_take h (k + 1)
  have h2 := fol_take h k
  have hs : (fol d (xs.take (k + 1))).s = aft (fol d (xs.take k)).s (xs.getD k 0) := by
    rw [take_snoc hk] at h1 ⊢
    rw [fol_snoc h2] at h1 ⊢
    by_cases hc : chk (fol d (xs.take k)).s (xs.getD k 0) = 0
    · rw [decide_eq_true hc]; rfl
    · rw [decide_eq_false hc] at h1; exact absurd h1 hc
  have hc : chk (fol d (xs.take (k + 1))).s x = 2 := by rw [hs]; exact chk_low hb hx
  obtain ⟨e1, e2⟩ := fol_bad h1 (by rw [hc]; omega : chk (fol d (xs.take (k + 1))).s x ≠ 0) []
  rw [hc] at e1
  refine ⟨e1, ?_⟩
  rw [e2, List.length_take]
  congr 1
  omega
end Go.Proofs.Ytojlmpcbplepcaa
