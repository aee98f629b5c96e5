/- Chapter 6: the reference's Read answers as deal.Read does. -/
import Derived.Test.YtpalajfcffdhoaaDoorRr2
namespace Go.Proofs.YtpalajfcffdhoaaDoor
open Go Go.Eng Go.Deal
def zQ : DQ := ⟨0, 0, 0, 0⟩
theorem rrG_no : ∀ (r : List UInt8) (k : Nat) (q : DQ) (w : List UInt8), r.count 32 = 0 → rrG r k q w = rrG [] k q (w ++ r)
  | [], k, q, w, _ => by rw [List.append_nil]
  | b :: r, k, q, w, h => by
    rw [List.count_cons] at h
    have hb : (b == 32) = false := by
      cases hb : (b == 32) with
      | false => rfl
      | true => rw [hb] at h; simp at h
    have ih := rrG_no r k q (w ++ [b]) (by omega)
    rw [List.append_assoc, List.singleton_append] at ih
    rw [← ih]
    show (if b == 32 then _ else rrG r k q (w ++ [b])) = _
    rw [hb]; rfl
theorem rrG_sp : ∀ (r : List UInt8) (k : Nat) (q : DQ) (w : List UInt8), 0 < r.count 32 → rrG r k q w = rrE k q (w ++ ctS r) fun m => rrG (rsS r) (k + 1) (putQ k (m : Nat) q) []
  | [], k, q, w, h => by simp at h
  | b :: r, k, q, w, h => by
    show (if b == 32 then _ else rrG r k q (w ++ [b])) = _
    rw [List.count_cons] at h
    cases hb : (b == 32) with
    | true =>
      rw [if_pos rfl]
      unfold ctS rsS
      rw [hb, if_pos rfl, if_pos rfl, List.append_nil]
    | false =>
      rw [hb] at h
      have ih := rrG_sp r k q (w ++ [b]) (by simpa using h)
      unfold ctS rsS
      rw [hb, if_neg (by simp), if_neg (by simp), if_neg (by simp), ih, List.append_assoc, List.singleton_append]
theorem rrG_k : ∀ (r : List UInt8) (k : Nat) (q : DQ) (w : List UInt8) (k' : Nat) (q' : DQ), rrG r k q w = (true, k', q') → k' = k + r.count 32 + 1
  | [], k, q, w, k', q', h => by
    have h2 : rrE k q w (fun m => (true, k + 1, putQ k (m : Nat) q)) = (true, k', q') := h
    unfold rrE at h2
    cases hp : N4.parseN w with
    | none => rw [hp] at h2; cases h2
    | some m =>
      rw [hp] at h2
      dsimp only at h2
      split at h2
      · cases h2
      · cases h2; simp
  | b :: r, k, q, w, k', q', h => by
    have h2 : (if b == 32 then rrE k q w (fun m => rrG r (k + 1) (putQ k (m : Nat) q) []) else rrG r k q (w ++ [b])) = (true, k', q') := h
    rw [List.count_cons]
    cases hb : (b == 32) with
    | false =>
      rw [hb, if_neg (by simp)] at h2
      have := rrG_k r k q _ k' q' h2
      simp; omega
    | true =>
      rw [hb, if_pos rfl] at h2
      unfold rrE at h2
      cases hp : N4.parseN w with
      | none => rw [hp] at h2; cases h2
      | some m =>
        rw [hp] at h2
        dsimp only at h2
        split at h2
        · cases h2
        · have := rrG_k r (k + 1) _ _ k' q' h2
          simp; omega
/-- Four parts. -/
noncomputable def quad (r : List UInt8) : Option (Nat × Nat × Nat × Nat) := pK (ctS r) fun a => pK (ctS (rsS r)) fun b => pK (ctS (rsS (rsS r))) fun c => pK (rsS (rsS (rsS r))) fun d => some (a, b, c, d)
theorem rrG_quad {r : List UInt8} (h : r.count 32 = 3) : (∃ k q, rrG r 0 zQ [] = (false, k, q) ∧ quad r = none) ∨ (∃ a b c d : Nat, rrG r 0 zQ [] = (true, 4, DQ.n a b c d) ∧ quad r = some (a, b, c, d)) := by
  obtain ⟨_, _, x3⟩ := ctS_eq (l := r) (by omega)
  obtain ⟨_, _, y3⟩ := ctS_eq (l := rsS r) (by omega)
  obtain ⟨_, _, z3⟩ := ctS_eq (l := rsS (rsS r)) (by omega)
  rw [rrG_sp r 0 zQ [] (by omega), List.nil_append]
  unfold quad pK rrE
  cases p0 : N4.parseN (ctS r) with
  | none => exact .inl ⟨_, _, rfl, rfl⟩
  | some a =>
    dsimp only
    rw [if_neg (by omega), rrG_sp (rsS r) _ _ [] (by omega), List.nil_append]
    unfold rrE
    cases p1 : N4.parseN (ctS (rsS r)) with
    | none => exact .inl ⟨_, _, rfl, rfl⟩
    | some b =>
      dsimp only
      rw [if_neg (by omega), rrG_sp (rsS (rsS r)) _ _ [] (by omega), List.nil_append]
      unfold rrE
      cases p2 : N4.parseN (ctS (rsS (rsS r))) with
      | none => exact .inl ⟨_, _, rfl, rfl⟩
      | some c =>
        dsimp only
        rw [if_neg (by omega), rrG_no (rsS (rsS (rsS r))) _ _ [] (by omega), List.nil_append]
        unfold rrG rrE
        cases p3 : N4.parseN (rsS (rsS (rsS r))) with
        | none => exact .inl ⟨_, _, rfl, rfl⟩
        | some d =>
          dsimp only
          rw [if_neg (by omega)]
          exact .inr ⟨a, b, c, d, rfl, rfl⟩
noncomputable def pqK : Option (Nat × Nat × Nat × Nat) → Option (Nat × Nat × Nat × Nat)
  | some (a, b, c, d) => if parB a b c d = true then some (a, b, c, d) else none
  | none => none
theorem readN_quad {l : List UInt8} (hc : cpI l = true) (h3 : (l.drop 2).count 32 = 3) (hl : l.length ≤ 69) : readN l = pqK (quad (l.drop 2)) := by
  unfold readN quad pK
  rw [if_pos ⟨hc, hl, h3⟩]
  cases N4.parseN (ctS (l.drop 2)) with
  | none => rfl
  | some a =>
    dsimp only
    cases N4.parseN (ctS (rsS (l.drop 2))) with
    | none => rfl
    | some b =>
      dsimp only
      cases N4.parseN (ctS (rsS (rsS (l.drop 2)))) with
      | none => rfl
      | some c =>
        dsimp only
        cases N4.parseN (rsS (rsS (rsS (l.drop 2)))) with
        | none => rfl
        | some d => rfl
theorem quad_only {l : List UInt8} {a b c d : Nat} (hc : cpI l = true) (h3 : (l.drop 2).count 32 = 3) (h : quad (l.drop 2) = some (a, b, c, d)) : l = txL a b c d := by
  have hl := cpI_is hc
  unfold quad at h
  generalize l.drop 2 = r at h h3 hl
  obtain ⟨x1, _, x3⟩ := ctS_eq (l := r) (by omega)
  obtain ⟨y1, _, y3⟩ := ctS_eq (l := rsS r) (by omega)
  obtain ⟨z1, _, z3⟩ := ctS_eq (l := rsS (rsS r)) (by omega)
  obtain ⟨a', p0, h⟩ := pK_some h
  obtain ⟨b', p1, h⟩ := pK_some h
  obtain ⟨c', p2, h⟩ := pK_some h
  obtain ⟨d', p3, h⟩ := pK_some h
  cases h
  unfold txL
  rw [← (N4.parse_only p0).1, ← (N4.parse_only p1).1, ← (N4.parse_only p2).1, ← (N4.parse_only p3).1, ← z1, ← y1, ← x1]
  exact hl
theorem quad_lt {r : List UInt8} {a b c d : Nat} (h : quad r = some (a, b, c, d)) : a < 4503599627370496 ∧ b < 4503599627370496 ∧ c < 4503599627370496 ∧ d < 4503599627370496 := by
  unfold quad at h
  obtain ⟨a', p0, h⟩ := pK_some h
  obtain ⟨b', p1, h⟩ := pK_some h
  obtain ⟨c', p2, h⟩ := pK_some h
  obtain ⟨d', p3, h⟩ := pK_some h
  cases h
  exact ⟨(N4.parse_only p0).2, (N4.parse_only p1).2, (N4.parse_only p2).2, (N4.parse_only p3).2⟩
theorem readN_any {l : List UInt8} (hc : cpI l = true) (h3 : (l.drop 2).count 32 = 3) : readN l = pqK (quad (l.drop 2)) := by
  by_cases hl : l.length ≤ 69
  · exact readN_quad hc h3 hl
  · have e : readN l = none := by unfold readN; rw [if_neg (fun h => hl h.2.1)]
    rw [e]
    cases hq : quad (l.drop 2) with
    | none => rfl
    | some p =>
      obtain ⟨a, b, c, d⟩ := p
      unfold pqK
      dsimp only
      by_cases hp : parB (a : Int) b c d = true
      · have := txL_len (parB_iff.1 hp)
        rw [← quad_only hc h3 hq] at this
        exact absurd this hl
      · rw [if_neg hp]
theorem readN_not {l : List UInt8} (h3 : (l.drop 2).count 32 ≠ 3) : readN l = none := by unfold readN; rw [if_neg (fun h => h3 h.2.2)]
theorem readN_cp {l : List UInt8} (hc : cpI l = false) : readN l = none := by unfold readN; rw [hc, if_neg (fun h => by cases h.1)]
end Go.Proofs.YtpalajfcffdhoaaDoor
