/- Chapter 9: the reference's Read, plainly: it answers what auction.Read answers. -/
import Derived.Test.YtnhilofmafjdpaaDoorRT5
namespace Go.Proofs.YtnhilofmafjdpaaDoor
open Go Go.Eng
def wdL (l : List UInt8) : List UInt8 := l.takeWhile (fun b => b != 32)
/-- The word of a cell. -/
def wdS (s : ByteArray) (k : Nat) : ByteArray := ⟨(wdL ((s.data.toList.drop (5 * k)).take 5)).toArray⟩
/-- Cell by cell: whether the lines are long enough, the dealer, the calls. -/
def rfGo (tb : List ByteArray) : Nat → Nat → Int → List Int → Bool × Int × List Int
  | 0, _, d, l => (true, d, l)
  | n + 1, i, d, l => bif ckS (tb.getD (i / 4) noS) then bif strEq (wdS (tb.getD (i / 4) noS) (i % 4)) dashS && decide (i < 4) then rfGo tb n (i + 1) (d + 1) l else
      bif !decide (rdE (wdS (tb.getD (i / 4) noS) (i % 4)) = 0) || decide (l.length = 319) then (true, d, l) else rfGo tb n (i + 1) d (l ++ [rdC (wdS (tb.getD (i / 4) noS) (i % 4))]) else (false, d, l)
def rcGo : List ByteArray → Nat → Int → List Int → Bool × Int × List Int
  | [], _, d, l => (true, d, l)
  | w :: r, i, d, l => bif strEq w dashS && decide (i < 4) then rcGo r (i + 1) (d + 1) l else bif !decide (rdE w = 0) || decide (l.length = 319) then (true, d, l) else rcGo r (i + 1) d (l ++ [rdC w])
def noBl (t : ByteArray) : Bool := t.data.toList.all fun b => b != 32
theorem wd_cell {t : ByteArray} (h : noBl t = true) : wdL (cellL t) = t.data.toList := by
  unfold wdL cellL
  rw [List.takeWhile_append_of_pos (fun a ha => List.all_eq_true.1 h a ha)]
  cases 5 - t.data.toList.length <;> simp [List.replicate_succ]
theorem line_word {a b c d : ByteArray} (ha : tidyC a = true) (hb : tidyC b = true) (hc : tidyC c = true) (hd : tidyC d = true) (na : noBl a = true) (nb : noBl b = true) (nc : noBl c = true) (nd : noBl d = true) :
    wdS (lineS a b c d) 0 = a ∧ wdS (lineS a b c d) 1 = b ∧ wdS (lineS a b c d) 2 = c ∧ wdS (lineS a b c d) 3 = d := by
  have la := cell_len (of_decide_eq_true (Bool.and_eq_true_iff.1 ha).1)
  have lb := cell_len (of_decide_eq_true (Bool.and_eq_true_iff.1 hb).1)
  have lc := cell_len (of_decide_eq_true (Bool.and_eq_true_iff.1 hc).1)
  have ld := cell_len (of_decide_eq_true (Bool.and_eq_true_iff.1 hd).1)
  have key : ∀ k, wdS (lineS a b c d) k = ⟨(wdL (((cellL a ++ cellL b ++ cellL c ++ cellL d).drop (5 * k)).take 5)).toArray⟩ := fun k => rfl
  refine ⟨?_, ?_, ?_, ?_⟩
  · rw [key, Nat.mul_zero, List.drop_zero, List.append_assoc, List.append_assoc, List.take_append_of_le_length (by omega), List.take_of_length_le (by omega), wd_cell na]
  · rw [key, List.append_assoc, List.append_assoc, List.drop_append_of_le_length (by omega), List.drop_of_length_le (by omega), List.nil_append, List.take_append_of_le_length (by omega), List.take_of_length_le (by omega), wd_cell nb]
  · rw [key, List.append_assoc, List.drop_append, List.drop_of_length_le (by simp only [List.length_append]; omega), List.nil_append, show 5 * 2 - (cellL a ++ cellL b).length = 0 by simp only [List.length_append]; omega, List.drop_zero, List.take_append_of_le_length (by omega), List.take_of_length_le (by omega), wd_cell nc]
  · rw [key, List.drop_append, List.drop_of_length_le (by simp only [List.length_append]; omega), List.nil_append, show 5 * 3 - (cellL a ++ cellL b ++ cellL c).length = 0 by simp only [List.length_append]; omega, List.drop_zero, List.take_of_length_le (by omega), wd_cell nd]
def noBlL (cs : List ByteArray) : Bool := cs.all noBl
theorem cellAt_noBl {cs : List ByteArray} (h : noBlL cs = true) (i : Nat) : noBl (cellAt cs i) = true := by
  unfold cellAt
  rw [List.getD_eq_getElem?_getD]
  cases hi : cs[i]? with
  | none => decide
  | some t => exact List.all_eq_true.1 h t (List.mem_of_getElem? hi)
theorem lns_word {cs : List ByteArray} (ht : tidyL cs = true) (hb : noBlL cs = true) {i : Nat} (hi : i < 4 * (lns cs).length) : ckS ((lns cs).getD (i / 4) noS) = true ∧ wdS ((lns cs).getD (i / 4) noS) (i % 4) = cellAt cs i := by
  have hl : i / 4 < (cs.length + 3) / 4 := by rw [lns_len] at hi; omega
  have e : (lns cs).getD (i / 4) noS = lineAt cs (i / 4) := by
    unfold lns
    rw [List.getD_eq_getElem?_getD, List.getElem?_map, List.getElem?_range hl]; rfl
  rw [e, lineAt_is]
  obtain ⟨w0, w1, w2, w3⟩ := line_word (cellAt_tidy ht (4 * (i / 4))) (cellAt_tidy ht (4 * (i / 4) + 1)) (cellAt_tidy ht (4 * (i / 4) + 2)) (cellAt_tidy ht (4 * (i / 4) + 3)) (cellAt_noBl hb _) (cellAt_noBl hb _) (cellAt_noBl hb _) (cellAt_noBl hb _)
  have hc := (line_cut (cellAt_tidy ht (4 * (i / 4))) (cellAt_tidy ht (4 * (i / 4) + 1)) (cellAt_tidy ht (4 * (i / 4) + 2)) (cellAt_tidy ht (4 * (i / 4) + 3))).1
  refine ⟨decide_eq_true hc, ?_⟩
  have h4 : i % 4 < 4 := Nat.mod_lt _ (by omega)
  rcases (show i % 4 = 0 ∨ i % 4 = 1 ∨ i % 4 = 2 ∨ i % 4 = 3 by omega) with h | h | h | h <;> rw [h]
  · rw [w0]; congr 1; omega
  · rw [w1]; congr 1; omega
  · rw [w2]; congr 1; omega
  · rw [w3]; congr 1; omega
theorem rf_cells {cs : List ByteArray} (ht : tidyL cs = true) (hb : noBlL cs = true) : ∀ (n i : Nat) (d : Int) (l : List Int), i + n = 4 * (lns cs).length → rfGo (lns cs) n i d l = rcGo (((List.range (4 * (lns cs).length)).map (cellAt cs)).drop i) i d l
  | 0, i, d, l, h => by
    rw [List.drop_of_length_le (by simp only [List.length_map, List.length_range]; omega)]; rfl
  | n + 1, i, d, l, h => by
    have hi : i < ((List.range (4 * (lns cs).length)).map (cellAt cs)).length := by simp only [List.length_map, List.length_range]; omega
    rw [List.drop_eq_getElem_cons hi]
    obtain ⟨h1, h2⟩ := lns_word ht hb (i := i) (by omega)
    simp only [rfGo, rcGo, List.getElem_map, List.getElem_range]
    rw [h1, h2]
    simp only [cond_true]
    rw [rf_cells ht hb n (i + 1) (d + 1) l (by omega), rf_cells ht hb n (i + 1) d _ (by omega)]
theorem rc_dash (r : List ByteArray) : ∀ (k i : Nat) (d : Int) (l : List Int), i + k ≤ 4 → rcGo (List.replicate k dashS ++ r) i d l = rcGo r (i + k) (d + k) l
  | 0, i, d, l, _ => by simp
  | k + 1, i, d, l, h => by
    simp only [List.replicate_succ, List.cons_append, rcGo]
    rw [strEq_iff.2 rfl, decide_eq_true (show i < 4 by omega)]
    simp only [Bool.and_self, cond_true]
    rw [rc_dash r k (i + 1) (d + 1) l (by omega)]
    congr 1 <;> omega
theorem txt_rd {c : Int} (h : 0 ≤ c ∧ c ≤ 37) : strEq (txt c) dashS = false ∧ rdE (txt c) = 0 ∧ rdC (txt c) = c ∧ noBl (txt c) = true := by
  have key : allN 38 (fun k => !strEq (txt (k : Int)) dashS && (decide (rdE (txt (k : Int)) = 0) && (decide (rdC (txt (k : Int)) = (k : Int)) && noBl (txt (k : Int))))) = true := by kernel_rfl
  have hk := allN_ok key c.toNat (by omega)
  rw [show ((c.toNat : Nat) : Int) = c by omega] at hk
  simp only [Bool.and_eq_true, Bool.not_eq_true', decide_eq_true_eq] at hk
  exact ⟨hk.1, hk.2.1, hk.2.2.1, hk.2.2.2⟩
theorem rc_txt (r : List ByteArray) : ∀ (xs : List Int) (i : Nat) (d : Int) (l : List Int), allC xs = true → l.length + xs.length ≤ 319 → rcGo (xs.map txt ++ r) i d l = rcGo r (i + xs.length) d (l ++ xs)
  | [], i, d, l, _, _ => by simp
  | c :: xs, i, d, l, h, hl => by
    simp only [allC, okC, Bool.and_eq_true, decide_eq_true_eq] at h
    simp only [List.length_cons] at hl
    obtain ⟨h1, h2, h3, _⟩ := txt_rd ⟨h.1.1, h.1.2⟩
    simp only [List.map_cons, List.cons_append, rcGo]
    rw [h1, h2, h3, decide_eq_true (rfl : (0 : Int) = 0), decide_eq_false (show ¬ l.length = 319 by omega)]
    simp only [Bool.false_and, Bool.not_true, Bool.or_self, cond_false]
    rw [rc_txt r xs (i + 1) d (l ++ [c]) h.2 (by rw [List.length_append, List.length_singleton]; omega)]
    simp only [List.length_cons, List.append_assoc, List.singleton_append]
    congr 1; omega
theorem rc_no (k i : Nat) (d : Int) (l : List Int) : rcGo (List.replicate k noS) i d l = (true, d, l) := by
  cases k with
  | zero => rfl
  | succ k =>
    simp only [List.replicate_succ, rcGo]
    rw [show strEq noS dashS = false by decide, show decide (rdE noS = 0) = false by kernel_rfl]; rfl
theorem rc_ask (r : List ByteArray) (i : Nat) (d : Int) (l : List Int) : rcGo (askS :: r) i d l = (true, d, l) := by
  simp only [rcGo]
  rw [show strEq askS dashS = false by decide, show decide (rdE askS = 0) = false by kernel_rfl]; rfl
theorem tbC_noBl {d : Int} {xs : List Int} (h : allC xs = true) (o : Bool) : noBlL (tbC d xs o) = true := by
  simp only [noBlL, List.all_eq_true, tbC, withT, dashes, List.mem_append, List.mem_replicate, List.mem_map]
  rintro t ((⟨_, rfl⟩ | ⟨c, hc, rfl⟩) | ht)
  · decide
  · exact (txt_rd (allC_mem h c hc)).2.2.2
  · cases o with
    | true => cases ht
    | false => simp only [cond_false, List.mem_singleton] at ht; subst ht; decide
/-- What the reference reads of a table. -/
theorem back_ref {d : Int} {xs : List Int} (hd : 0 ≤ d ∧ d ≤ 3) (h : allC xs = true) (hl : xs.length ≤ 319) (o : Bool) : rfGo (lns (tbC d xs o)) (4 * (lns (tbC d xs o)).length) 0 0 [] = (true, d, xs) := by
  rw [rf_cells (tbC_tidy h o) (tbC_noBl h o) _ 0 0 [] (by omega), List.drop_zero, cells_pad _ (by rw [lns_len]; omega)]
  generalize 4 * (lns (tbC d xs o)).length - (tbC d xs o).length = k
  unfold tbC withT dashes
  rw [List.append_assoc, List.append_assoc, rc_dash _ d.toNat 0 0 [] (by omega), rc_txt _ xs _ _ [] h (by simpa using hl)]
  rw [show (0 : Int) + (d.toNat : Int) = d by omega]
  cases o with
  | true => exact rc_no k _ _ _
  | false => exact rc_ask _ _ _ _
theorem rfGo_ok (tb : List ByteArray) : ∀ (n i : Nat) (d : Int) (l : List Int), 0 ≤ d → allU l = true → l.length ≤ 319 → 0 ≤ (rfGo tb n i d l).2.1 ∧ allU (rfGo tb n i d l).2.2 = true ∧ (rfGo tb n i d l).2.2.length ≤ 319
  | 0, i, d, l, h1, h2, h3 => ⟨h1, h2, h3⟩
  | n + 1, i, d, l, h1, h2, h3 => by
    simp only [rfGo]
    cases ckS (tb.getD (i / 4) noS) with
    | false => exact ⟨h1, h2, h3⟩
    | true =>
      simp only [cond_true]
      generalize wdS (tb.getD (i / 4) noS) (i % 4) = w
      cases (strEq w dashS && decide (i < 4)) with
      | true => exact rfGo_ok tb n (i + 1) (d + 1) l (by omega) h2 h3
      | false =>
        have hr := rdC_range w
        by_cases hl : l.length = 319
        · rw [decide_eq_true hl, Bool.or_true]; exact ⟨h1, h2, h3⟩
        · rw [decide_eq_false hl, Bool.or_false]
          cases (!decide (rdE w = 0)) with
          | true => exact ⟨h1, h2, h3⟩
          | false => exact rfGo_ok tb n (i + 1) d (l ++ [rdC w]) h1 (allU_snoc h2 (by omega)) (by rw [List.length_append, List.length_singleton]; omega)
def rfQ (tb : List ByteArray) : Bool × Int × List Int := rfGo tb (4 * tb.length) 0 0 []
def rfOk (tb : List ByteArray) : Bool := (rfQ tb).1 && (decide ((fol (rfQ tb).2.1 (rfQ tb).2.2).e = 0) && (decide ((tblV (fol (rfQ tb).2.1 (rfQ tb).2.2) (rfQ tb).2.1 (rfQ tb).2.2).length = tb.length) && eqS (tblV (fol (rfQ tb).2.1 (rfQ tb).2.2) (rfQ tb).2.1 (rfQ tb).2.2) tb))
theorem eqS_eq : ∀ {a b : List ByteArray}, a.length = b.length → eqS a b = true → a = b
  | [], [], _, _ => rfl
  | [], _ :: _, h, _ => by simp at h
  | _ :: _, [], h, _ => by simp at h
  | x :: a, y :: b, h, he => by
    simp only [eqS, Bool.and_eq_true, strEq_iff] at he
    simp only [List.length_cons, Nat.add_right_cancel_iff] at h
    rw [he.1, eqS_eq h he.2]
theorem rf_read {d : Int} {xs : List Int} (hk : okA d xs = true) (hr : (fol d xs).e = 0) : rfQ (tblV (fol d xs) d xs) = (true, d, xs) := by
  obtain ⟨h0, h1, h2⟩ := fol_ok hk hr
  have hl := right_len hk hr
  have hT : tblV (fol d xs) d xs = lns (tbC d xs (ovr (fol d xs).s)) := by unfold tblV; rw [decide_eq_true hr]; rfl
  unfold rfQ
  rw [hT]
  exact back_ref ⟨h0, h1⟩ h2 hl _
theorem rf_is (tb : List ByteArray) : rfOk tb = rOk tb ∧ (rOk tb = true → (rfQ tb).2.1 = rvD tb ∧ (rfQ tb).2.2 = rvL tb) := by
  have key : ∀ d l, okA d l = true → (fol d l).e = 0 → tblV (fol d l) d l = tb → rfOk tb = true ∧ rOk tb = true ∧ (rfQ tb).2.1 = rvD tb ∧ (rfQ tb).2.2 = rvL tb := by
    intro d l hk hr ht
    have h1 := rf_read hk hr
    obtain ⟨v1, v2, v3⟩ := read_table hk hr
    rw [ht] at h1 v1 v2 v3
    have hro : rOk tb = true := by
      cases h : rOk tb with
      | true => rfl
      | false => unfold rvE at v2; rw [h] at v2; cases v2
    refine ⟨?_, hro, ?_, ?_⟩
    · unfold rfOk
      rw [h1]
      dsimp only
      rw [hr, ht, decide_eq_true rfl, decide_eq_true rfl, eqS_refl]; rfl
    · rw [h1, v1]
    · rw [h1, v3]
  have hA : rfOk tb = true → rOk tb = true ∧ (rfQ tb).2.1 = rvD tb ∧ (rfQ tb).2.2 = rvL tb := by
    intro h
    unfold rfOk at h
    simp only [Bool.and_eq_true, decide_eq_true_eq] at h
    obtain ⟨_, h2, h3, h4⟩ := h
    obtain ⟨q1, q2, q3⟩ := rfGo_ok tb (4 * tb.length) 0 0 [] (by omega) rfl (by simp)
    have hk : okA (rfQ tb).2.1 (rfQ tb).2.2 = true := by
      simp only [okA, smallL, Bool.and_eq_true, decide_eq_true_eq]
      exact ⟨q1, by show (rfQ tb).2.2.length ≤ _; have : (rfQ tb).2.2.length ≤ 319 := q3; omega, q2⟩
    exact (key _ _ hk h2 (eqS_eq h3 h4)).2
  have hB : rOk tb = true → rfOk tb = true := by
    intro h
    have h' := h
    unfold rOk at h
    simp only [Bool.and_eq_true, decide_eq_true_eq] at h
    obtain ⟨h1, _, h2, h3, h4⟩ := h
    obtain ⟨q1, q2, q3⟩ := linesR_ok tb (d := 0) (by omega) (l := []) rfl
    have hk : okA (linesR tb 0 []).2.1 (linesR tb 0 []).2.2 = true := by
      simp only [okA, smallL, Bool.and_eq_true, decide_eq_true_eq]
      refine ⟨q1, ?_, q2⟩
      simp only [List.length_nil] at q3
      omega
    exact (key _ _ hk h2 (eqS_eq h3 h4)).1
  refine ⟨?_, ?_⟩
  · cases h1 : rfOk tb with
    | true => exact (hA h1).1.symm
    | false =>
      cases h2 : rOk tb with
      | false => rfl
      | true => rw [hB h2] at h1; cases h1
  · intro h
    exact (hA (hB h)).2
end Go.Proofs.YtnhilofmafjdpaaDoor
