/- Chapter 4, the reference: Parse: what its loops read, and that it is what card's own reads. -/
import Derived.Test.YtpalajfcffdhoaaDoorCRParse
namespace Go.Proofs.YtpalajfcffdhoaaDoor.N4
open Go Go.Eng
theorem rkD_bd (c : UInt8) : ∀ n, -1 ≤ rkD c n ∧ rkD c n < n
  | 0 => by simp [rkD]
  | n + 1 => by
    have := rkD_bd c n
    simp only [rkD]
    split <;> omega
theorem rkD_is {c : UInt8} : ∀ {n : Nat}, 0 ≤ rkD c n → rU.getD (rkD c n).toNat 0 = c
  | 0, h => by simp [rkD] at h
  | n + 1, h => by
    simp only [rkD] at h ⊢
    split
    · rename_i hc
      rw [show ((n : Nat) : Int).toNat = n from rfl]; exact hc
    · rename_i hc
      rw [if_neg hc] at h
      exact rkD_is h
theorem rkD_all : ∀ la, la < 14 → ∀ n, n < 13 → n < la → rkD (rU.getD n 0) la = (n : Int) := by decide
/-- A text is read: the set and the suit that it ends in. -/
def pmR : List UInt8 → Nat → Nat → Nat → Option (Nat × Nat)
  | [], m, su, _ => some (m, su)
  | c :: r, m, su, la => if c = 46 then (match su with
      | 0 => none
      | s + 1 => pmR r m s 13) else
    if rkD c la < 0 then none else pmR r (m ||| 2 ^ (13 * su + (rkD c la).toNat)) su (rkD c la).toNat
/-- The rest of a set's text. -/
def tailT (m : Nat) : Nat → Nat → List UInt8
  | 0, la => suf m 0 la
  | s + 1, la => suf m (s + 1) la ++ 46 :: tailT m s 13
theorem tail_nil (m : Nat) {s la : Nat} (h : ∀ i, i < la → m.testBit (13 * s + i) = false) : tailT m s la = tailT m s 0 := by
  have := suf_skip (r := m) (s := s) (k := 0) la (Nat.zero_le _) (fun i _ hi => h i hi)
  cases s with
  | zero => exact this
  | succ s => simp only [tailT, this]
theorem tail_skip (m : Nat) {s k la : Nat} (hk : k ≤ la) (h : ∀ i, k ≤ i → i < la → m.testBit (13 * s + i) = false) : tailT m s la = tailT m s k := by
  have := suf_skip (r := m) (s := s) (k := k) la hk h
  cases s with
  | zero => exact this
  | succ s => simp only [tailT, this]
theorem tail_step (m : Nat) {s n : Nat} : tailT m s (n + 1) = if m.testBit (13 * s + n) then rU.getD n 0 :: tailT m s n else tailT m s n := by
  cases s with
  | zero => simp only [tailT, suf]
  | succ s => simp only [tailT, suf]; split <;> rfl
theorem tail_wtxt (m : Nat) : tailT m 3 13 = wtxt m := rfl
theorem pm_fwd : ∀ {l : List UInt8} {m s la m' : Nat}, s ≤ 3 → la ≤ 13 → m < 4503599627370496 → (∀ i, i < 13 * s + la → m.testBit i = false) → pmR l m s la = some (m', 0) →
    l = tailT m' s la ∧ (∀ i, 13 * s + la ≤ i → m'.testBit i = m.testBit i) ∧ m' < 4503599627370496
  | [], m, s, la, m', _, _, hm, hz, h => by
    simp only [pmR] at h
    cases h
    exact ⟨(suf_skip (r := m) (s := 0) (k := 0) la (Nat.zero_le _) (fun i _ hi => hz _ (by omega))).symm, fun _ _ => rfl, hm⟩
  | c :: r, m, s, la, m', hs, hla, hm, hz, h => by
    simp only [pmR] at h
    split at h
    · rename_i hc
      cases s with
      | zero => cases h
      | succ s =>
        dsimp only at h
        obtain ⟨a1, a2, a3⟩ := pm_fwd (s := s) (la := 13) (by omega) (Nat.le_refl _) hm (fun i hi => hz i (by omega)) h
        refine ⟨?_, fun i hi => a2 i (by omega), a3⟩
        rw [tail_nil m' (fun i hi => by rw [a2 _ (by omega)]; exact hz _ (by omega)), hc, a1]; rfl
    · split at h
      · cases h
      · rename_i hc hk
        obtain ⟨b1, b2⟩ := rkD_bd c la
        have hr := rkD_is (c := c) (n := la) (by omega)
        generalize hq : (rkD c la).toNat = k at *
        have hkl : k < la := by omega
        have hlt : m ||| 2 ^ (13 * s + k) < 4503599627370496 := Nat.or_lt_two_pow (n := 52) hm (Nat.pow_lt_pow_right (by decide) (by omega))
        obtain ⟨a1, a2, a3⟩ := pm_fwd (s := s) (la := k) hs (by omega) hlt (fun i hi => by rw [or_test, hz i (by omega), decide_eq_false (by omega)]; rfl) h
        refine ⟨?_, fun i hi => by rw [a2 i (by omega), or_test, decide_eq_false (by omega), Bool.or_false], a3⟩
        rw [tail_skip m' (k := k + 1) (by omega) (fun i h3 h4 => by rw [a2 _ (by omega), or_test, hz _ (by omega), decide_eq_false (by omega)]; rfl), tail_step, a2 _ (Nat.le_refl _), or_test, decide_eq_true rfl, Bool.or_true, if_pos rfl, hr, ← a1]
theorem pm_bwd {r : Nat} : ∀ {s n la m : Nat}, s ≤ 3 → n ≤ la → la ≤ 13 → ∃ m', pmR (tailT r s n) m s la = some (m', 0)
  | 0, 0, la, m, _, _, _ => ⟨m, rfl⟩
  | s + 1, 0, la, m, h1, _, _ => by
    obtain ⟨m', h⟩ := pm_bwd (r := r) (s := s) (n := 13) (la := 13) (m := m) (by omega) (Nat.le_refl _) (Nat.le_refl _)
    refine ⟨m', ?_⟩
    show pmR (46 :: tailT r s 13) m (s + 1) la = _
    simp only [pmR]
    exact h
  | s, n + 1, la, m, h1, h2, h3 => by
    rw [tail_step]
    cases hb : r.testBit (13 * s + n) with
    | true =>
      rw [if_pos rfl]
      obtain ⟨m', h⟩ := pm_bwd (r := r) (s := s) (n := n) (la := n) (m := m ||| 2 ^ (13 * s + n)) h1 (Nat.le_refl _) (by omega)
      refine ⟨m', ?_⟩
      have hk := rkD_all la (by omega) n (by omega) (by omega)
      simp only [pmR]
      rw [if_neg (rk_get (k := n) (by omega)).2, hk, if_neg (by omega), show ((n : Nat) : Int).toNat = n from rfl]
      exact h
    | false =>
      rw [if_neg (by simp)]
      exact pm_bwd h1 (by omega) h3
termination_by s n => (s, n)
def prR (l : List UInt8) : Option Nat := match pmR l 0 3 13 with
  | some (m, 0) => some m
  | _ => none
theorem prR_is (l : List UInt8) : prR l = parseN l := by
  have fw : ∀ m, pmR l 0 3 13 = some (m, 0) → parseN l = some m := fun m h => by
    obtain ⟨a1, _, a3⟩ := pm_fwd (by decide) (Nat.le_refl 13) (by decide) (fun i _ => Nat.zero_testBit i) h
    rw [a1, tail_wtxt]
    exact parse_back a3
  have bw : ∀ m, parseN l = some m → ∃ m', pmR l 0 3 13 = some (m', 0) := fun m h => by
    rw [(parse_only h).1, ← tail_wtxt]
    exact pm_bwd (by decide) (Nat.le_refl _) (Nat.le_refl _)
  unfold prR
  split
  · rename_i m h
    exact (fw m h).symm
  · rename_i hn
    cases h : parseN l with
    | none => rfl
    | some m =>
      obtain ⟨m', h'⟩ := bw m h
      exact (hn m' h').elim
/-- The loop's end. -/
def rpFin (z e : Int) : Option (Nat × Nat) → XE × List PV
  | none => (.ret, [.i 0, .i 40])
  | some p => (.exit 0, [.i z, .i e, .i (p.1 : Int), .i (p.2 : Int)])
structure rpS where
  (i m su la : Nat)
def rpInv (t : List UInt8) (x : rpS) : Prop := x.i ≤ t.length ∧ x.m < 4503599627370496 ∧ x.su ≤ 3 ∧ x.la ≤ 13 ∧ ∀ j, j < 13 * x.su + x.la → x.m.testBit j = false
theorem rp_loop1 (rd : Option Nat) (t : List UInt8) (z e : Int) (ht : t.length ≤ 1000000) : ∀ x : rpS, rpInv t x →
    ∃ n, SimL Tryd.prog 0 rd rpLp1 n (rpT1.at [.s (bA t), .i z, .i e, .i (x.m : Int), .i (x.su : Int), .i (x.la : Int), .i (x.i : Int)]) (rpFin z e (pmR (t.drop x.i) x.m x.su x.la)).1 ((rpE (rpFin z e (pmR (t.drop x.i) x.m x.su x.la)).1).at (rpFin z e (pmR (t.drop x.i) x.m x.su x.la)).2) := by
  refine loop_of_roundsX_n (C := orcNR R0) (L := rpL2) (N := 100) (me := 49) (T := rpT1) (T' := rpE) orcNR_ok mixed rpL2_ok (by kernel_rfl) rpE_ok (X := rpS)
    (fun x => [.s (bA t), .i z, .i e, .i (x.m : Int), .i (x.su : Int), .i (x.la : Int), .i (x.i : Int)]) (fun x => rpInv t x) (fun x => t.length - x.i) (fun x => rpFin z e (pmR (t.drop x.i) x.m x.su x.la)) ?_
  rintro ⟨i, m, su, la⟩ ⟨hi, hm, hs, hla, hz⟩
  dsimp only at hi hm hs hla hz ⊢
  have h := rp_round1 R0 rd (bA t) z e (m : Int) (su : Int) (la : Int) (i : Int)
  rcases Nat.lt_or_ge i t.length with hlt | hge
  · have cd : codesB [(rpLp2, rpLp2)] = true := by rw [codesB_iff]; intro x hx; simp at hx; rw [hx]
    rw [decide_eq_true (show (i : Int) < Int.ofNat (bA t).data.toList.length by show (i : Int) < (t.length : Int); omega), cond_true, chAt_at hlt] at h
    rw [List.drop_eq_getElem_cons hlt]
    simp only [pmR]
    by_cases hc : t[i] = 46
    · rw [decide_eq_true (show (t[i].toNat : Int) = 46 by rw [hc]; rfl), cond_true, wrI64 (by omega) (by omega)] at h
      rw [if_pos hc]
      cases su with
      | zero =>
        rw [decide_eq_true (show ((0 : Nat) : Int) - 1 < 0 by decide)] at h
        exact ⟨_, _, _, h, codesE, .inr ⟨by simp, rfl⟩⟩
      | succ s =>
        rw [decide_eq_false (show ¬ (((s + 1 : Nat) : Int) - 1 < 0) by omega), cond_false, show ((s + 1 : Nat) : Int) - 1 = (s : Int) by omega, wrI64 (by omega) (by omega)] at h
        exact ⟨_, _, _, h, codesE, .inl ⟨rfl, ⟨i + 1, m, s, 13⟩, rfl, ⟨by dsimp only; omega, hm, by dsimp only; omega, Nat.le_refl _, fun j hj => hz j (by dsimp only at hj; omega)⟩, by dsimp only; omega, rfl⟩⟩
    · have hne : ¬ (t[i].toNat : Int) = 46 := fun hh => hc (by
        have h1 : t[i].toNat = 46 := by omega
        have h2 : t[i] = UInt8.ofNat t[i].toNat := by simp
        rw [h2, h1]; rfl)
      have hC : rpC2 (bA t) (la : Int) (i : Int) (-1) 0 = true := by
        unfold rpC2
        rw [decide_eq_true_eq]
        exact ⟨rfl, rfl, by omega, by omega, by omega, by show (i : Int) < (t.length : Int); omega⟩
      have hk : rkSq (bA t) (i : Int) (la : Int) = rkD t[i] la := by
        unfold rkSq
        rw [show (bA t).data.toList = t from rfl, show ((i : Int)).toNat = i from rfl, show ((la : Int)).toNat = la from rfl, List.getD_eq_getElem?_getD, List.getElem?_eq_getElem hlt, Option.getD_some]
      rw [decide_eq_false hne, cond_false, cd, cond_true, hC, cond_true, hk] at h
      rw [if_neg hc]
      obtain ⟨b1, b2⟩ := rkD_bd t[i] la
      by_cases hn : rkD t[i] la < 0
      · rw [decide_eq_true hn] at h
        rw [if_pos hn]
        exact ⟨_, _, _, h, codesE, .inr ⟨by simp, rfl⟩⟩
      · rw [if_neg hn]
        obtain ⟨k, hk'⟩ : ∃ k : Nat, rkD t[i] la = (k : Int) := ⟨(rkD t[i] la).toNat, by omega⟩
        rw [hk'] at h b2 ⊢
        rw [show ((k : Nat) : Int).toNat = k from rfl]
        have hbit := hz (13 * su + k) (by omega)
        have hor := or_add (13 * su + k) m hbit
        have hlt52 : m ||| 2 ^ (13 * su + k) < 4503599627370496 := Nat.or_lt_two_pow (n := 52) hm (Nat.pow_lt_pow_right (by decide) (by omega))
        have hu8 : wr .u8 ((13 * su + k : Nat) : Int) = ((13 * su + k : Nat) : Int) := by show ((13 * su + k : Nat) : Int) % 256 = _; omega
        have hbc : R0.bitC ((13 * su + k : Nat) : Int) = true := by
          show decide (0 ≤ ((13 * su + k : Nat) : Int) ∧ ((13 * su + k : Nat) : Int) ≤ 63) = true
          rw [decide_eq_true_eq]; omega
        have hw : wr .u64 ((m : Int) + R0.bit ((13 * su + k : Nat) : Int)) = ((m ||| 2 ^ (13 * su + k) : Nat) : Int) := by
          show ((m : Int) + ((2 ^ (13 * su + k) : Nat) : Int)) % 18446744073709551616 = _
          rw [hor] at hlt52 ⊢
          generalize 2 ^ (13 * su + k) = q at *
          omega
        rw [decide_eq_false (show ¬ ((k : Int) < 0) by omega), cond_false, rIx_eq hs (by omega), hu8, hbc, cond_true, hw, wrI64 (by omega) (by omega)] at h
        exact ⟨_, _, _, h, codesE, .inl ⟨rfl, ⟨i + 1, m ||| 2 ^ (13 * su + k), su, k⟩, rfl, ⟨by dsimp only; omega, hlt52, hs, by dsimp only; omega, fun j hj => by
          dsimp only at hj ⊢
          rw [or_test, hz j (by omega), decide_eq_false (by omega)]; rfl⟩, by dsimp only; omega, rfl⟩⟩
  · rw [decide_eq_false (show ¬ (i : Int) < Int.ofNat (bA t).data.toList.length from fun h => by have : (i : Int) < (t.length : Int) := h; omega), cond_false] at h
    refine ⟨_, _, _, h, codesE, .inr ⟨by simp, ?_⟩⟩
    rw [List.drop_eq_nil_of_le (by omega)]; rfl
end Go.Proofs.YtpalajfcffdhoaaDoor.N4
