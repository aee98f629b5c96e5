/- Chapter 3: what a shuffle does to a list, plainly. -/
import Derived.Test.YtnbfnoomhlamnaaShuf
namespace Go.Proofs.Ytnbfnoomhlamnaa
open Go Go.Eng

theorem swapL_len (ys : List Int) (i j : Nat) : (swapL ys i j).length = ys.length := by simp [swapL]
theorem shufR_len : ∀ (n : Nat) (s : Int) (ys : List Int), (shufR n s ys).2.length = ys.length
  | 0, _, _ => rfl
  | n + 1, s, ys => by simp only [shufR]; rw [shufR_len n, swapL_len]
theorem shufR_state : ∀ (n : Nat) (s : Int) (ys zs : List Int), (shufR n s ys).1 = (shufR n s zs).1
  | 0, _, _, _ => rfl
  | n + 1, s, ys, zs => by simp only [shufR]; exact shufR_state n _ _ _
theorem swapL_map (f : Int → Int) {ys : List Int} {i j : Nat} (hi : i < ys.length) (hj : j < ys.length) : swapL (ys.map f) i j = (swapL ys i j).map f := by
  unfold swapL
  rw [List.map_set, List.map_set]
  congr 1
  · congr 1
    rw [List.getD_eq_getElem?_getD, List.getD_eq_getElem?_getD, List.getElem?_map, List.getElem?_eq_getElem hj]; rfl
  · rw [List.getD_eq_getElem?_getD, List.getD_eq_getElem?_getD, List.getElem?_map, List.getElem?_eq_getElem hi]; rfl
/-- The place that is drawn. -/
theorem draw_lt {s : Int} {n : Nat} (hs : rightB s = true) (hn : n < 10000) : rightB (belowS s (n + 2 : Nat)) = true ∧ (belowV s (n + 2 : Nat)).toNat < n + 2 := by
  obtain ⟨b1, b2, b3⟩ := below_right (n := ((n + 2 : Nat) : Int)) hs (by omega) (by omega)
  exact ⟨b1, by omega⟩
theorem shufR_map (f : Int → Int) : ∀ (n : Nat) (s : Int) (ys : List Int), rightB s = true → n < ys.length → n < 10000 → (shufR n s (ys.map f)).2 = ((shufR n s ys).2).map f
  | 0, _, _, _, _, _ => rfl
  | n + 1, s, ys, hs, hl, hn => by
    obtain ⟨h1, h2⟩ := draw_lt (n := n) hs (by omega)
    simp only [shufR]
    rw [swapL_map f hl (by omega)]
    exact shufR_map f n _ _ h1 (by rw [swapL_len]; omega) (by omega)
theorem swapL_count {ys : List Int} {i j : Nat} (a : Int) (hi : i < ys.length) (hj : j < ys.length) : (swapL ys i j).count a = ys.count a := by
  unfold swapL
  have e1 : ys.getD j 0 = ys[j] := by rw [List.getD_eq_getElem?_getD, List.getElem?_eq_getElem hj]; rfl
  have e2 : ys.getD i 0 = ys[i] := by rw [List.getD_eq_getElem?_getD, List.getElem?_eq_getElem hi]; rfl
  rw [e1, e2, List.count_set (by rw [List.length_set]; exact hj), List.count_set hi, List.getElem_set]
  have p1 : (if ys[i] == a then 1 else 0) ≤ ys.count a := by
    split
    · rename_i h; exact List.one_le_count_iff.2 (by rw [← eq_of_beq h]; exact List.getElem_mem hi)
    · exact Nat.zero_le _
  by_cases hij : i = j
  · subst hij; rw [if_pos rfl]; omega
  · rw [if_neg hij]
    have p2 : (if ys[i] == a then 1 else 0) + (if ys[j] == a then 1 else 0) ≤ ys.count a ∨ (ys[j] == a) = false ∨ (ys[i] == a) = false := by
      by_cases x : (ys[i] == a) = false
      · exact .inr (.inr x)
      · by_cases y : (ys[j] == a) = false
        · exact .inr (.inl y)
        · left
          simp only [Bool.not_eq_false] at x y
          rw [if_pos x, if_pos y]
          have hset := List.count_set (l := ys) (i := i) (a := a + 1) (b := a) hi
          have hne : (a + 1 == a) = false := by simp; omega
          rw [hne, if_pos x] at hset
          have : 1 ≤ (ys.set i (a + 1)).count a := List.one_le_count_iff.2 (by
            have := List.getElem_mem (l := ys.set i (a + 1)) (n := j) (by simpa using hj)
            rw [List.getElem_set, if_neg hij, eq_of_beq y] at this
            exact this)
          simp at hset
          omega
    have p3 : (if ys[j] == a then 1 else 0) ≤ ys.count a := by
      split
      · rename_i h; exact List.one_le_count_iff.2 (by rw [← eq_of_beq h]; exact List.getElem_mem hj)
      · exact Nat.zero_le _
    generalize ys.count a = c at *
    cases hx : (ys[i] == a) <;> cases hy : (ys[j] == a) <;> simp only [hx, hy] at * <;> simp at * <;> omega
theorem shufR_count (a : Int) : ∀ (n : Nat) (s : Int) (ys : List Int), rightB s = true → n < ys.length → n < 10000 → ((shufR n s ys).2).count a = ys.count a
  | 0, _, _, _, _, _ => rfl
  | n + 1, s, ys, hs, hl, hn => by
    obtain ⟨h1, h2⟩ := draw_lt (n := n) hs (by omega)
    simp only [shufR]
    rw [shufR_count a n _ _ h1 (by rw [swapL_len]; omega) (by omega), swapL_count a hl (by omega)]
/-- What lies behind is not touched. -/
theorem shufR_above : ∀ (n : Nat) (s : Int) (ys : List Int) (m : Nat), rightB s = true → n < 10000 → n < m → (shufR n s ys).2[m]? = ys[m]?
  | 0, _, _, _, _, _, _ => rfl
  | n + 1, s, ys, m, hs, hn, hm => by
    obtain ⟨h1, h2⟩ := draw_lt (n := n) hs (by omega)
    simp only [shufR]
    rw [shufR_above n _ _ m h1 (by omega) (by omega)]
    unfold swapL
    rw [List.getElem?_set_ne (by omega), List.getElem?_set_ne (by omega)]
theorem shufR_last {n : Nat} {s : Int} {ys : List Int} (hs : rightB s = true) (hn : n + 1 < 10000) (hl : ys.length = n + 2) : (shufR (n + 1) s ys).2[n + 1]? = ys[(belowV s (n + 2 : Nat)).toNat]? := by
  obtain ⟨h1, h2⟩ := draw_lt (n := n) hs (by omega)
  simp only [shufR]
  rw [shufR_above n _ _ (n + 1) h1 (by omega) (by omega)]
  unfold swapL
  generalize hj : (belowV s (n + 2 : Nat)).toNat = j at *
  have hjl : j < ys.length := by omega
  by_cases hij : j = n + 1
  · subst hij
    rw [List.getElem?_set_self (by simp; omega), List.getD_eq_getElem?_getD, List.getElem?_eq_getElem hjl]
    rfl
  · rw [List.getElem?_set_ne hij, List.getElem?_set_self (by omega), List.getD_eq_getElem?_getD, List.getElem?_eq_getElem hjl]
    rfl
end Go.Proofs.Ytnbfnoomhlamnaa
