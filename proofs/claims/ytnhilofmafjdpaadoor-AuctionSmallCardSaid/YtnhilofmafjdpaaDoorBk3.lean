/- Chapter 9: a table that is made is read as what it was made of: plainly. -/
import Derived.Test.YtnhilofmafjdpaaDoorRd4
import Derived.Test.YtnhilofmafjdpaaDoorBk
import Derived.Test.YtnhilofmafjdpaaDoorEng4
namespace Go.Proofs.YtnhilofmafjdpaaDoor
open Go Go.Eng
theorem trB_pad {l : List UInt8} (k : Nat) : Lib.trimRightB (l ++ List.replicate k 32) 32 = Lib.trimRightB l 32 := by
  unfold Lib.trimRightB
  rw [List.reverse_append, List.reverse_replicate]
  congr 1
  induction k with
  | zero => rfl
  | succ n ih =>
    rw [List.replicate_succ, List.cons_append, List.dropWhile_cons]
    simp only [beq_self_eq_true, if_true]
    exact ih
/-- A cell's text: at most five bytes, no blank behind. -/
def tidyC (t : ByteArray) : Bool := decide (t.data.toList.length ≤ 5) && strEq (trB t) t
theorem cell_len {t : ByteArray} (h : t.data.toList.length ≤ 5) : (cellL t).length = 5 := by
  unfold cellL
  rw [List.length_append, List.length_replicate]; omega
theorem cell_tr {t : ByteArray} (h : tidyC t = true) : (⟨(Lib.trimRightB (cellL t) 32).toArray⟩ : ByteArray) = t := by
  simp only [tidyC, Bool.and_eq_true, strEq_iff] at h
  unfold cellL
  rw [trB_pad]; exact h.2
theorem line_cut {a b c d : ByteArray} (ha : tidyC a = true) (hb : tidyC b = true) (hc : tidyC c = true) (hd : tidyC d = true) :
    lenS (lineS a b c d) = 20 ∧ cvS (lineS a b c d) 0 = a ∧ cvS (lineS a b c d) 1 = b ∧ cvS (lineS a b c d) 2 = c ∧ cvS (lineS a b c d) 3 = d := by
  have la := cell_len (of_decide_eq_true (Bool.and_eq_true_iff.1 ha).1)
  have lb := cell_len (of_decide_eq_true (Bool.and_eq_true_iff.1 hb).1)
  have lc := cell_len (of_decide_eq_true (Bool.and_eq_true_iff.1 hc).1)
  have ld := cell_len (of_decide_eq_true (Bool.and_eq_true_iff.1 hd).1)
  have hl : lenS (lineS a b c d) = 20 := by
    unfold lenS lineS
    simp only [List.length_append]; omega
  have key : ∀ k, cvS (lineS a b c d) k = ⟨(Lib.trimRightB (((cellL a ++ cellL b ++ cellL c ++ cellL d).drop (5 * k)).take 5) 32).toArray⟩ := fun k => by
    unfold cvS ckS trB extS
    rw [hl, decide_eq_true rfl]
    simp only [cond_true]
    rw [show 5 * k + 5 - 5 * k = 5 by omega]; rfl
  refine ⟨hl, ?_, ?_, ?_, ?_⟩
  · rw [key, Nat.mul_zero, List.drop_zero, List.append_assoc, List.append_assoc, List.take_append_of_le_length (by omega), List.take_of_length_le (by omega)]; exact cell_tr ha
  · rw [key, List.append_assoc, List.append_assoc, List.drop_append_of_le_length (by omega), List.drop_of_length_le (by omega), List.nil_append, List.take_append_of_le_length (by omega), List.take_of_length_le (by omega)]; exact cell_tr hb
  · rw [key, List.append_assoc, List.drop_append, List.drop_of_length_le (by simp only [List.length_append]; omega), List.nil_append, show 5 * 2 - (cellL a ++ cellL b).length = 0 by simp only [List.length_append]; omega, List.drop_zero, List.take_append_of_le_length (by omega), List.take_of_length_le (by omega)]; exact cell_tr hc
  · rw [key, List.drop_append, List.drop_of_length_le (by simp only [List.length_append]; omega), List.nil_append, show 5 * 3 - (cellL a ++ cellL b ++ cellL c).length = 0 by simp only [List.length_append]; omega, List.drop_zero, List.take_of_length_le (by omega)]; exact cell_tr hd
theorem cellsR_app : ∀ (a b : List ByteArray) (d : Int) (l : List Int), cellsR (a ++ b) d l = bif (cellsR a d l).1 then cellsR b (cellsR a d l).2.1 (cellsR a d l).2.2 else cellsR a d l
  | [], b, d, l => rfl
  | t :: r, b, d, l => by
    simp only [List.cons_append, cellsR]
    cases (cellR t d l).1 with
    | true => exact cellsR_app r b _ _
    | false => rfl
theorem linesR_app : ∀ (a b : List ByteArray) (d : Int) (l : List Int), linesR (a ++ b) d l = bif (linesR a d l).1 then linesR b (linesR a d l).2.1 (linesR a d l).2.2 else linesR a d l
  | [], b, d, l => rfl
  | t :: r, b, d, l => by
    simp only [List.cons_append, linesR]
    cases h : (lineR t d l).1 with
    | true => exact linesR_app r b _ _
    | false => simp only [cond_false, h]
theorem linesR_one (s : ByteArray) (d : Int) (l : List Int) : linesR [s] d l = lineR s d l := by
  simp only [linesR]
  generalize lineR s d l = q
  obtain ⟨b, x, y⟩ := q
  cases b <;> rfl
def cellAt (cs : List ByteArray) (i : Nat) : ByteArray := cs.getD i noS
theorem qC_at (cs : List ByteArray) (k j : Nat) : qC cs ((4 * k : Nat) : Int) j = cellAt cs (4 * k + j) := by
  unfold qC cellAt
  rw [show ((4 * k : Nat) : Int).toNat = 4 * k from rfl, show (Int.ofNat cs.length).toNat = cs.length from rfl]
  by_cases h : j < cs.length - 4 * k
  · rw [decide_eq_true h]; rfl
  · rw [decide_eq_false h, List.getD_eq_getElem?_getD, List.getElem?_eq_none (by omega)]; rfl
theorem lineAt_is (cs : List ByteArray) (k : Nat) : lineAt cs k = lineS (cellAt cs (4 * k)) (cellAt cs (4 * k + 1)) (cellAt cs (4 * k + 2)) (cellAt cs (4 * k + 3)) := by
  unfold lineAt
  rw [qC_at, qC_at, qC_at, qC_at]; rfl
def tidyL (cs : List ByteArray) : Bool := cs.all tidyC
theorem cellAt_tidy {cs : List ByteArray} (h : tidyL cs = true) (i : Nat) : tidyC (cellAt cs i) = true := by
  unfold cellAt
  rw [List.getD_eq_getElem?_getD]
  cases hi : cs[i]? with
  | none => decide
  | some t => exact List.all_eq_true.1 h t (List.mem_of_getElem? hi)
theorem range4 (f : Nat → ByteArray) (n : Nat) : (List.range (4 * (n + 1))).map f = (List.range (4 * n)).map f ++ [f (4 * n), f (4 * n + 1), f (4 * n + 2), f (4 * n + 3)] := by
  rw [show 4 * (n + 1) = 4 * n + 1 + 1 + 1 + 1 by omega, List.range_succ, List.range_succ, List.range_succ, List.range_succ]
  simp
theorem lines_cells {cs : List ByteArray} (h : tidyL cs = true) (d : Int) (l : List Int) : ∀ n : Nat, linesR ((List.range n).map (lineAt cs)) d l = cellsR ((List.range (4 * n)).map (cellAt cs)) d l
  | 0 => rfl
  | n + 1 => by
    rw [range4, cellsR_app, List.range_succ, List.map_append, linesR_app, lines_cells h d l n]
    simp only [List.map_cons, List.map_nil, linesR_one]
    cases (cellsR ((List.range (4 * n)).map (cellAt cs)) d l).1 with
    | false => rfl
    | true =>
      obtain ⟨e0, e1, e2, e3, e4⟩ := line_cut (cellAt_tidy h (4 * n)) (cellAt_tidy h (4 * n + 1)) (cellAt_tidy h (4 * n + 2)) (cellAt_tidy h (4 * n + 3))
      simp only [cond_true]
      unfold lineR ckS
      rw [lineAt_is, e0, e1, e2, e3, e4]; rfl
theorem cells_pad (cs : List ByteArray) {m : Nat} (h : cs.length ≤ m) : (List.range m).map (cellAt cs) = cs ++ List.replicate (m - cs.length) noS := by
  apply List.ext_getElem?
  intro i
  rw [List.getElem?_map]
  by_cases hi : i < m
  · rw [List.getElem?_range hi]
    simp only [Option.map_some, cellAt]
    by_cases hc : i < cs.length
    · rw [List.getElem?_append_left hc, List.getD_eq_getElem?_getD, List.getElem?_eq_getElem hc]; rfl
    · rw [List.getElem?_append_right (by omega), List.getElem?_replicate, if_pos (by omega), List.getD_eq_getElem?_getD, List.getElem?_eq_none (by omega)]; rfl
  · rw [List.getElem?_eq_none (by rw [List.length_range]; omega), List.getElem?_eq_none (by rw [List.length_append, List.length_replicate]; omega)]; rfl
theorem cells_dash : ∀ (k : Nat) (d : Int) (l : List Int), d + k ≤ 3 → cellsR (List.replicate k dashS) d l = (true, d + k, l)
  | 0, d, l, _ => by simp [cellsR]
  | k + 1, d, l, h => by
    simp only [List.replicate_succ, cellsR]
    have e : cellR dashS d l = (true, d + 1, l) := by
      unfold cellR
      rw [strEq_iff.2 rfl, decide_eq_true (show d < 3 by omega)]; rfl
    rw [e]
    simp only [cond_true]
    rw [cells_dash k (d + 1) l (by omega)]
    congr 2; omega
theorem cell_txt {c : Int} (h : 0 ≤ c ∧ c ≤ 37) (d : Int) (l : List Int) : cellR (txt c) d l = (true, d, l ++ [c]) := by
  have key : allN 38 (fun k => !strEq (txt (k : Int)) dashS && (decide (rdE (txt (k : Int)) = 0) && decide (rdC (txt (k : Int)) = (k : Int)))) = true := by kernel_rfl
  have hk := allN_ok key c.toNat (by omega)
  rw [show ((c.toNat : Nat) : Int) = c by omega] at hk
  simp only [Bool.and_eq_true, Bool.not_eq_true', decide_eq_true_eq] at hk
  unfold cellR
  rw [hk.1, decide_eq_true hk.2.1, hk.2.2]; rfl
theorem cells_txt : ∀ (xs : List Int) (d : Int) (l : List Int), allC xs = true → cellsR (xs.map txt) d l = (true, d, l ++ xs)
  | [], d, l, _ => by simp [cellsR]
  | c :: r, d, l, h => by
    simp only [allC, okC, Bool.and_eq_true, decide_eq_true_eq] at h
    simp only [List.map_cons, cellsR, cell_txt ⟨h.1.1, h.1.2⟩, cond_true]
    rw [cells_txt r d (l ++ [c]) h.2]; simp
theorem cell_ask (d : Int) (l : List Int) : cellR askS d l = (true, d, l) := by
  unfold cellR
  rw [show strEq askS dashS = false by decide, show decide (rdE askS = 0) = false by kernel_rfl, show strEq askS askS = true by decide]; rfl
theorem cell_no (d : Int) (l : List Int) : cellR noS d l = (true, d, l) := by
  unfold cellR
  rw [show strEq noS dashS = false by decide, show decide (rdE noS = 0) = false by kernel_rfl, show strEq noS noS = true by decide, show strEq noS askS = false by decide]; rfl
theorem cells_no : ∀ (k : Nat) (d : Int) (l : List Int), cellsR (List.replicate k noS) d l = (true, d, l)
  | 0, d, l => rfl
  | k + 1, d, l => by
    simp only [List.replicate_succ, cellsR, cell_no, cond_true]
    exact cells_no k d l
theorem txt_tidy {c : Int} (h : 0 ≤ c ∧ c ≤ 37) : tidyC (txt c) = true := by
  have key : allN 38 (fun k => tidyC (txt (k : Int))) = true := by kernel_rfl
  have hk := allN_ok key c.toNat (by omega)
  rw [show ((c.toNat : Nat) : Int) = c by omega] at hk
  exact hk
theorem allC_mem : ∀ {l : List Int}, allC l = true → ∀ c ∈ l, 0 ≤ c ∧ c ≤ 37
  | [], _, c, hc => by cases hc
  | x :: r, h, c, hc => by
    simp only [allC, okC, Bool.and_eq_true, decide_eq_true_eq] at h
    rcases List.mem_cons.1 hc with rfl | hc
    · exact ⟨h.1.1, h.1.2⟩
    · exact allC_mem h.2 c hc
theorem tbC_tidy {d : Int} {xs : List Int} (h : allC xs = true) (o : Bool) : tidyL (tbC d xs o) = true := by
  simp only [tidyL, List.all_eq_true, tbC, withT, dashes, List.mem_append, List.mem_replicate, List.mem_map]
  rintro t ((⟨_, rfl⟩ | ⟨c, hc, rfl⟩) | ht)
  · decide
  · exact txt_tidy (allC_mem h c hc)
  · cases o with
    | true => cases ht
    | false => simp only [cond_false, List.mem_singleton] at ht; subst ht; decide
theorem tbC_len {d : Int} (xs : List Int) (hd : 0 ≤ d) (o : Bool) : ((tbC d xs o).length : Int) = d + (xs.length : Int) + (bif o then 0 else 1) := by
  unfold tbC withT dashes
  simp only [List.length_append, List.length_replicate, List.length_map]
  cases o <;> simp <;> omega
/-- What is read of a table. -/
theorem back_lines {d : Int} {xs : List Int} (hd : 0 ≤ d ∧ d ≤ 3) (h : allC xs = true) (o : Bool) : linesR (lns (tbC d xs o)) 0 [] = (true, d, xs) := by
  unfold lns
  rw [lines_cells (tbC_tidy h o), cells_pad _ (by omega), cellsR_app]
  have e : cellsR (tbC d xs o) 0 [] = (true, d, xs) := by
    unfold tbC withT dashes
    rw [cellsR_app, cellsR_app, cells_dash d.toNat 0 [] (by omega)]
    simp only [cond_true]
    rw [cells_txt xs _ _ h]
    simp only [cond_true, List.nil_append]
    rw [show (0 : Int) + (d.toNat : Int) = d by omega]
    cases o with
    | true => rfl
    | false => simp only [cond_false, cellsR, cell_ask, cond_true]
  rw [e]
  simp only [cond_true]
  exact cells_no _ _ _
end Go.Proofs.YtnhilofmafjdpaaDoor
