/- Chapter 3: SeedShuffled answers true, for all seeds and lists. -/
import Derived.Test.YtnbfnoomhlamnaaLSh2
import Derived.Test.YtnbfnoomhlamnaaShufP
namespace Go.Proofs.Ytnbfnoomhlamnaa
open Go Go.Eng

noncomputable def lsTail (n : Nat) (s a : Int) (xs out ys : List Int) : Option V :=
  bif nnB (.rs (nnB (.grow false 3 1 (.ints .i64 ys))) 1 (.ints .i64 ys)) && (rightB s && decide (ys.length ≤ 10000)) then
    bif !decide (a = (shufR (ys.length - 1) s ys).1) then some (.bool false) else
    bif !decide (Int.ofNat out.length = Int.ofNat n) then some (.bool false) else
    bif !decide (Int.ofNat (shufR (ys.length - 1) s ys).2.length = Int.ofNat n) then some (.bool false) else
    bif decide (0 ≤ Int.ofNat n ∧ Int.ofNat n ≤ Int.ofNat n ∧ Int.ofNat n * 9 ≤ 140737488355328) then
      cond (codesB [(lsLp2, lsLp2)])
        (bif pB (0 = 0 ∧ Int.ofNat (shufR (ys.length - 1) s ys).2.length = (n : Int) ∧ (0 : Int) = 0 ∧ List.replicate n (0 : Int) = List.replicate n 0 ∧ ok2 n xs out (shufR (ys.length - 1) s ys).2) then
          cond (codesB [(lsLp3, lsLp3)])
            (bif pB (Int.ofNat (cnt n (shufR (ys.length - 1) s ys).2).length = ((cnt n (shufR (ys.length - 1) s ys).2).length : Int) ∧ (0 : Int) = 0 ∧ (cnt n (shufR (ys.length - 1) s ys).2).length ≤ 60 ∧
                ∀ (i : Nat) x, (cnt n (shufR (ys.length - 1) s ys).2)[i]? = some x → x = 1) then
              bif decide (Int.ofNat n < 2) then some (.bool (decide (a = s))) else
              bif decide (errI (!belowB s (Int.ofNat n)) = 0) then
                bif decide (0 ≤ wr .i64 (Int.ofNat n - 1) ∧ wr .i64 (Int.ofNat n - 1) < Int.ofNat out.length) then
                  match out[(wr .i64 (Int.ofNat n - 1)).toNat]? with
                  | some v => bif decide (0 ≤ belowV s (Int.ofNat n) ∧ belowV s (Int.ofNat n) < Int.ofNat n ∧ 0 + n ≤ xs.length) then
                      match xs[(belowV s (Int.ofNat n)).toNat]? with
                      | some u => some (.bool (decide (v = u)))
                      | none => none
                    else none
                  | none => none
                else none
              else some (.bool false)
            else none) none
        else none) none
    else none
  else none
noncomputable def lsNone (s a : Int) (out : List Int) : Option V :=
  bif rightB s then
    bif !decide (a = s) then some (.bool false) else
    bif !decide (Int.ofNat out.length = 0) then some (.bool false) else
    cond (codesB [(lsLp3, lsLp3)])
      (bif pB ((0 : Int) = 0 ∧ (0 : Int) = 0 ∧ 0 ≤ 60 ∧ ∀ (i : Nat) x, (List.replicate 0 (0 : Int))[i]? = some x → x = 1) then some (.bool (decide (a = s))) else none) none
  else none
def lsM (xs : List Int) : Nat := (foldI minI (Int.ofNat xs.length) [60]).toNat
def lsA (z : Int) (xs : List Int) : Int × List Int := shufR ((List.take (lsM xs) xs).length - 1) (ofI z) (List.take (lsM xs) xs)
theorem ls_all (z : Int) (xs : List Int) : evalFn Try.prog lsO lsLoops 100 6 Try.f6 [.int .i64 z, .gs 0] [.rs true 1 (.ints .i64 xs)] (fun v _ => some v) =
    bif decide (0 ≤ (0 : Int) ∧ 0 ≤ foldI minI (Int.ofNat xs.length) [60] ∧ foldI minI (Int.ofNat xs.length) [60] ≤ Int.ofNat xs.length) then
    bif decide (0 + (lsM xs - 0) ≤ xs.length) then
    bif true && (rightB (ofI z) && decide ((List.take (lsM xs - 0) xs).length ≤ 10000)) then
      cond (codesB [(lsLp1, lsLp1)])
        (bif decide (Int.ofNat (lsM xs - 0) = ((lsM xs - 0 : Nat) : Int) ∧ (0 : Int) = 0 ∧ lsM xs - 0 ≤ 60) then
          bif Nat.beq (lsM xs - 0) 0 then lsNone (ofI z) (lsA z xs).1 (lsA z xs).2
          else lsTail (lsM xs) (ofI z) (lsA z xs).1 xs (lsA z xs).2 (upto (lsM xs))
        else none) none
    else none else none else none := by kernel_rfl
theorem ls_nil (z : Int) : evalFn Try.prog lsO lsLoops 100 6 Try.f6 [.int .i64 z, .flat (.slice none 0 0)] [] (fun v _ => some v) =
    bif rightB (ofI z) then bif rightB (ofI z) then bif !decide (ofI z = ofI z) then some (.bool false) else some (.bool (decide (ofI z = ofI z))) else none else none := by kernel_rfl

theorem upto_count {n k : Nat} : (upto n).count (k : Int) = if k < n then 1 else 0 := by
  induction n with
  | zero => rfl
  | succ n ih =>
    rw [upto_succ, List.count_append, ih]
    by_cases h : k = n
    · subst h; simp
    · have : List.count (k : Int) [(n : Int)] = 0 := by rw [List.count_eq_zero]; simp; omega
      rw [this]
      by_cases h2 : k < n
      · rw [if_pos h2, if_pos (by omega)]
      · rw [if_neg h2, if_neg (by omega)]
theorem upto_mem {n : Nat} {x : Int} (h : x ∈ upto n) : ∃ k : Nat, k < n ∧ x = k := by
  simp only [upto, List.mem_map, List.mem_range] at h
  obtain ⟨k, h1, h2⟩ := h
  exact ⟨k, h1, h2.symm⟩
theorem of_is_right (n : Int) : 1 ≤ ofI n ∧ ofI n ≤ 2147483646 := by
  have h2 := Int.tmod_lt_of_pos n (show (0 : Int) < 2147483646 by omega)
  have h3 : -2147483646 < n.tmod 2147483646 := by
    rcases Int.le_total 0 n with h | h
    · have := Int.tmod_nonneg 2147483646 h; omega
    · have h4 := Int.tmod_lt_of_pos (-n) (show (0 : Int) < 2147483646 by omega)
      rw [Int.neg_tmod] at h4
      omega
  unfold ofI
  generalize n.tmod 2147483646 = t at *
  cases h : decide (t < 0) with
  | true =>
    simp only [decide_eq_true_eq] at h
    rw [cond_true, wr64 (x := t + 2147483646) (by omega) (by omega), wr64 (by omega) (by omega)]
    omega
  | false =>
    simp only [decide_eq_false_iff_not] at h
    rw [cond_false, wr64 (by omega) (by omega)]
    omega
theorem codes1 {a : Code} : codesB [(a, a)] = true := by rw [codesB_iff]; intro x hx; simp at hx; rw [hx]

theorem ls_true (z : Int) (xs : List Int) : evalFn Try.prog lsO lsLoops 100 6 Try.f6 [.int .i64 z, .gs 0] [.rs true 1 (.ints .i64 xs)] (fun v _ => some v) = some (.bool true) := by
  rw [ls_all]
  have hs : rightB (ofI z) = true := right_iff.2 (by have := of_is_right z; omega)
  have hM : foldI minI (Int.ofNat xs.length) [60] = ((min xs.length 60 : Nat) : Int) := by
    simp only [foldI, minI, Int.ofNat_eq_natCast]
    by_cases h2 : (60 : Int) < (xs.length : Int)
    · rw [decide_eq_true h2, cond_true]; omega
    · rw [decide_eq_false h2, cond_false]; omega
  have hMn : lsM xs = min xs.length 60 := by unfold lsM; rw [hM]; omega
  have hle : lsM xs ≤ xs.length := by omega
  have hle2 : lsM xs ≤ 60 := by omega
  have hlt : (List.take (lsM xs) xs).length = lsM xs := by rw [List.length_take]; omega
  have hAl : (lsA z xs).2.length = lsM xs := by unfold lsA; rw [shufR_len, hlt]
  have d1 : decide (0 ≤ (0 : Int) ∧ 0 ≤ foldI minI (Int.ofNat xs.length) [60] ∧ foldI minI (Int.ofNat xs.length) [60] ≤ Int.ofNat xs.length) = true := decide_eq_true (by
    rw [hM]; refine ⟨by omega, by omega, ?_⟩; show ((min xs.length 60 : Nat) : Int) ≤ (xs.length : Int); omega)
  have d2 : decide (0 + (lsM xs - 0) ≤ xs.length) = true := decide_eq_true (by omega)
  have d3 : decide ((List.take (lsM xs - 0) xs).length ≤ 10000) = true := decide_eq_true (by rw [Nat.sub_zero, hlt]; omega)
  have d4 : decide (Int.ofNat (lsM xs - 0) = ((lsM xs - 0 : Nat) : Int) ∧ (0 : Int) = 0 ∧ lsM xs - 0 ≤ 60) = true := decide_eq_true ⟨rfl, rfl, by omega⟩
  rw [d1, d2, d3, d4, hs, codes1, Nat.sub_zero]
  simp only [Bool.and_self, cond_true]
  generalize hn : lsM xs = n at *
  cases n with
  | zero =>
    have e : lsA z xs = (ofI z, List.take 0 xs) := by unfold lsA; rw [hn]; rfl
    rw [show Nat.beq 0 0 = true from rfl, cond_true, e]
    unfold lsNone
    have p : pB ((0 : Int) = 0 ∧ (0 : Int) = 0 ∧ 0 ≤ 60 ∧ ∀ (i : Nat) x, (List.replicate 0 (0 : Int))[i]? = some x → x = 1) = true := pB_iff.2 ⟨rfl, rfl, by omega, fun i x h => by simp at h⟩
    rw [hs, codes1, p]
    simp
  | succ n =>
    rw [show Nat.beq (n + 1) 0 = false from rfl, cond_false]
    have hA : lsA z xs = shufR n (ofI z) (List.take (n + 1) xs) := by unfold lsA; rw [hn, hlt]; rfl
    generalize hY : List.take (n + 1) xs = Y at *
    have hst : (lsA z xs).1 = (shufR n (ofI z) (upto (n + 1))).1 := by rw [hA]; exact shufR_state _ _ _ _
    have hul := upto_len (n + 1)
    have hYf : Y = (upto (n + 1)).map (fun j => Y.getD j.toNat 0) := by
      apply List.ext_getElem?
      intro i
      by_cases hi : i < n + 1
      · rw [List.getElem?_eq_getElem (by omega), List.getElem?_map, List.getElem?_eq_getElem (by omega)]
        simp only [upto, List.getElem_map, List.getElem_range, Option.map_some]
        rw [List.getD_eq_getElem?_getD]
        show some Y[i] = some (Y[i]?.getD 0)
        rw [List.getElem?_eq_getElem (by omega)]
        rfl
      · rw [List.getElem?_eq_none (by omega), List.getElem?_eq_none (by rw [List.length_map]; omega)]
    have hout : (lsA z xs).2 = ((shufR n (ofI z) (upto (n + 1))).2).map (fun j => Y.getD j.toNat 0) := by
      rw [hA]
      conv => lhs; rw [hYf]
      exact shufR_map _ n _ _ hs (by rw [hul]; omega) (by omega)
    have hcount : ∀ k : Nat, k < n + 1 → ((shufR n (ofI z) (upto (n + 1))).2).count (k : Int) = 1 := fun k hk => by
      rw [shufR_count _ n _ _ hs (by rw [hul]; omega) (by omega), upto_count, if_pos hk]
    have hordl : ((shufR n (ofI z) (upto (n + 1))).2).length = n + 1 := by rw [shufR_len, hul]
    have hmem : ∀ x ∈ (shufR n (ofI z) (upto (n + 1))).2, ∃ k : Nat, k < n + 1 ∧ x = k := fun x hx => by
      refine upto_mem (List.one_le_count_iff.1 ?_)
      rw [← shufR_count x n (ofI z) (upto (n + 1)) hs (by rw [hul]; omega) (by omega)]
      exact List.one_le_count_iff.2 hx
    have hYx : ∀ k, k < n + 1 → xs[k]? = Y[k]? := fun k hk => by rw [← hY, List.getElem?_take_of_lt hk]
    have hlast : ∀ m, n = m + 1 → (lsA z xs).2[n]? = Y[(belowV (ofI z) (m + 2 : Nat)).toNat]? := fun m hm => by
      subst hm
      rw [hA]
      exact shufR_last hs (by omega) hlt
    generalize hord : (shufR n (ofI z) (upto (n + 1))).2 = ord at *
    generalize hout' : (lsA z xs).2 = out at *
    have hok : ok2 (n + 1) xs out ord := by
      refine ⟨hordl, hAl, hle, hle2, fun i hi => ?_⟩
      obtain ⟨k, hk, he⟩ := hmem ord[i] (List.getElem_mem (by omega))
      refine ⟨k, hk, by rw [List.getElem?_eq_getElem (by omega), he], ?_⟩
      rw [hYx k hk, hout, List.getElem?_map, List.getElem?_eq_getElem (by omega), he, Option.map_some, List.getElem?_eq_getElem (by omega)]
      rw [List.getD_eq_getElem?_getD, show ((k : Int)).toNat = k by omega, List.getElem?_eq_getElem (by omega)]
      rfl
    have hones : ∀ (i : Nat) x, (cnt (n + 1) ord)[i]? = some x → x = 1 := fun i x h => by
      by_cases hi : i < n + 1
      · rw [cnt_get hi, hcount i hi] at h
        cases h; rfl
      · rw [List.getElem?_eq_none (by rw [cnt_len]; omega)] at h; cases h
    unfold lsTail
    rw [hul, show n + 1 - 1 = n from rfl, hord, ← hst, hordl, hAl, cnt_len]
    have b1 : nnB (.rs (nnB (.grow false 3 1 (.ints .i64 (upto (n + 1))))) 1 (.ints .i64 (upto (n + 1)))) = true := by
      simp only [nnB, Row.len, hul, pos]; rfl
    have b2 : decide (n + 1 ≤ 10000) = true := decide_eq_true (by omega)
    have b3 : decide (0 ≤ Int.ofNat (n + 1) ∧ Int.ofNat (n + 1) ≤ Int.ofNat (n + 1) ∧ Int.ofNat (n + 1) * 9 ≤ 140737488355328) = true := decide_eq_true (by
      refine ⟨by show (0 : Int) ≤ ((n + 1 : Nat) : Int); omega, Int.le_refl _, by show ((n + 1 : Nat) : Int) * 9 ≤ 140737488355328; omega⟩)
    have b4 := (pB_iff (p := 0 = 0 ∧ Int.ofNat (n + 1) = ((n + 1 : Nat) : Int) ∧ (0 : Int) = 0 ∧ List.replicate (n + 1) (0 : Int) = List.replicate (n + 1) 0 ∧ ok2 (n + 1) xs out ord)).2 ⟨rfl, rfl, rfl, rfl, hok⟩
    have b5 := (pB_iff (p := Int.ofNat (n + 1) = ((n + 1 : Nat) : Int) ∧ (0 : Int) = 0 ∧ n + 1 ≤ 60 ∧ ∀ (i : Nat) x, (cnt (n + 1) ord)[i]? = some x → x = 1)).2 ⟨rfl, rfl, hle2, hones⟩
    rw [b1, b2, b3, b4, b5, hs, codes1, codes1]
    simp only [Bool.and_self, cond_true, decide_true, Bool.not_true, cond_false]
    cases n with
    | zero =>
      rw [show decide (Int.ofNat (0 + 1) < 2) = true from rfl, cond_true, hst]
      show some (V.bool (decide (ofI z = ofI z))) = _
      simp
    | succ m =>
      have c1 : decide (Int.ofNat (m + 1 + 1) < 2) = false := decide_eq_false (by show ¬ ((m + 1 + 1 : Nat) : Int) < 2; omega)
      have c2 : belowB (ofI z) (Int.ofNat (m + 1 + 1)) = false := by
        unfold belowB; rw [hs]; simp; omega
      have c3 : wr .i64 (Int.ofNat (m + 1 + 1) - 1) = ((m + 1 : Nat) : Int) := by
        show wr .i64 (((m + 1 + 1 : Nat) : Int) - 1) = _
        rw [wr64 (by omega) (by omega)]; omega
      have c4 : decide (0 ≤ ((m + 1 : Nat) : Int) ∧ ((m + 1 : Nat) : Int) < Int.ofNat (m + 1 + 1)) = true := decide_eq_true ⟨by omega, by show ((m + 1 : Nat) : Int) < ((m + 1 + 1 : Nat) : Int); omega⟩
      obtain ⟨q1, q2, q3⟩ := below_right (s := ofI z) (n := ((m + 1 + 1 : Nat) : Int)) hs (by omega) (by omega)
      have c5 : decide (0 ≤ belowV (ofI z) (Int.ofNat (m + 1 + 1)) ∧ belowV (ofI z) (Int.ofNat (m + 1 + 1)) < Int.ofNat (m + 1 + 1) ∧ 0 + (m + 1 + 1) ≤ xs.length) = true := decide_eq_true ⟨q2, q3, by omega⟩
      have hl := hlast m rfl
      have hx := hYx (belowV (ofI z) ((m + 1 + 1 : Nat) : Int)).toNat (by omega)
      have hjl : (belowV (ofI z) ((m + 1 + 1 : Nat) : Int)).toNat < Y.length := by omega
      rw [show (m + 2 : Nat) = m + 1 + 1 from rfl] at hl
      rw [c1, c2, c3, c4, c5]
      simp only [cond_true, cond_false, Bool.not_false, errI, decide_true]
      rw [show (((m + 1 : Nat) : Int)).toNat = m + 1 by omega, hl, show Int.ofNat (m + 1 + 1) = ((m + 1 + 1 : Nat) : Int) from rfl, hx, List.getElem?_eq_getElem hjl]
      simp
end Go.Proofs.Ytnbfnoomhlamnaa
