/- Chapter 4: texts of sets, plainly: Parse and Write are the opposite of one another. -/
import Derived.Test.YtpalajfcffdhoaaDoorCParse2
namespace Go.Proofs.YtpalajfcffdhoaaDoor.N4
open Go Go.Eng
theorem or_test (m q i : Nat) : (m ||| 2 ^ q).testBit i = (m.testBit i || decide (q = i)) := by rw [Nat.testBit_or, Nat.testBit_two_pow]
theorem suf_no (r s : Nat) : ∀ n, n ≤ 13 → (suf r s n).count 46 = 0
  | 0, _ => rfl
  | n + 1, h => by
    simp only [suf]
    have ih := suf_no r s n (by omega)
    split
    · rw [List.count_cons, ih, if_neg (by simpa using (rk_get (k := n) (by omega)).2)]
    · exact ih
theorem pp_fwd {s : Nat} : ∀ {l : List UInt8} {la m : Nat}, la ≤ 13 → (∀ i, i < la → m.testBit (13 * s + i) = false) → (pp s l la m).1 = true →
    l = suf (pp s l la m).2 s la ∧ ∀ i, ¬ (13 * s ≤ i ∧ i < 13 * s + la) → (pp s l la m).2.testBit i = m.testBit i
  | [], la, m, _, hz, _ => by
    simp only [pp]
    refine ⟨?_, by simp⟩
    rw [suf_skip (k := 0) la (Nat.zero_le _) (fun i _ hi => hz i hi)]; rfl
  | b :: r, la, m, hla, hz, h => by
    simp only [pp] at h ⊢
    split at h
    · cases h
    · rename_i hn
      rw [if_neg hn]
      rcases rk_cases b with ⟨k, hk, hk13, hb⟩ | ⟨hneg, _⟩
      · have hkt : (rkI b).toNat = k := by omega
        rw [hkt] at h ⊢
        have hlt : k < la := by omega
        obtain ⟨h1, h2⟩ := pp_fwd (s := s) (l := r) (la := k) (m := m ||| 2 ^ (13 * s + k)) (by omega) (fun i hi => by rw [or_test, hz i (by omega), decide_eq_false (by omega)]; rfl) h
        generalize (pp s r k (m ||| 2 ^ (13 * s + k))).2 = m' at h1 h2 ⊢
        have hbit : ∀ i, ¬ (13 * s ≤ i ∧ i < 13 * s + k) → m'.testBit i = (m.testBit i || decide (13 * s + k = i)) := fun i hi => by rw [h2 i hi, or_test]
        refine ⟨?_, fun i hi => by rw [hbit i (by omega), decide_eq_false (by omega), Bool.or_false]⟩
        rw [suf_skip (k := k + 1) la (by omega) (fun i h3 h4 => by rw [hbit _ (by omega), hz i h4, decide_eq_false (by omega)]; rfl)]
        simp only [suf]
        rw [hbit _ (by omega), decide_eq_true rfl, Bool.or_true, if_pos rfl, hb, ← h1]
      · omega
theorem pp_bwd {r s : Nat} : ∀ {n la m : Nat}, n ≤ la → la ≤ 13 → (∀ i, i < n → m.testBit (13 * s + i) = false) →
    (pp s (suf r s n) la m).1 = true ∧ ∀ i, (pp s (suf r s n) la m).2.testBit i = if 13 * s ≤ i ∧ i < 13 * s + n then r.testBit i else m.testBit i
  | 0, la, m, _, _, _ => by
    simp only [suf, pp]
    exact ⟨trivial, fun i => by rw [if_neg (by omega)]⟩
  | n + 1, la, m, h1, h2, hz => by
    simp only [suf]
    cases hb : r.testBit (13 * s + n) with
    | true =>
      obtain ⟨hk, _⟩ := rk_get (k := n) (by omega)
      rw [if_pos rfl]
      simp only [pp]
      rw [hk, if_neg (by omega), show ((n : Int)).toNat = n by omega]
      obtain ⟨q1, q2⟩ := pp_bwd (r := r) (s := s) (n := n) (la := n) (m := m ||| 2 ^ (13 * s + n)) (Nat.le_refl _) (by omega) (fun i hi => by rw [or_test, hz i (by omega), decide_eq_false (by omega)]; rfl)
      refine ⟨q1, fun i => ?_⟩
      rw [q2 i]
      by_cases hi : 13 * s ≤ i ∧ i < 13 * s + n
      · rw [if_pos hi, if_pos (by omega)]
      · rw [if_neg hi, or_test]
        by_cases he : 13 * s + n = i
        · subst he; rw [if_pos (by omega), hb, decide_eq_true rfl, Bool.or_true]
        · rw [if_neg (by omega), decide_eq_false he, Bool.or_false]
    | false =>
      rw [if_neg (by simp)]
      obtain ⟨q1, q2⟩ := pp_bwd (r := r) (s := s) (n := n) (la := la) (m := m) (by omega) h2 (fun i hi => hz i (by omega))
      refine ⟨q1, fun i => ?_⟩
      rw [q2 i]
      by_cases hi : 13 * s ≤ i ∧ i < 13 * s + n
      · rw [if_pos hi, if_pos (by omega)]
      · rw [if_neg hi]
        by_cases he : 13 * s + n = i
        · subst he; rw [if_pos (by omega), hb, hz n (by omega)]
        · rw [if_neg (by omega)]
theorem cut_suf : ∀ {p q : List UInt8}, p.count 46 = 0 → cut1 (p ++ 46 :: q) = p ∧ rest1 (p ++ 46 :: q) = q
  | [], q, _ => ⟨rfl, rfl⟩
  | b :: p, q, h => by
    rw [List.count_cons] at h
    have hb : (b == 46) = false := by
      cases hb : (b == 46) with
      | false => rfl
      | true => rw [hb] at h; simp at h
    obtain ⟨h1, h2⟩ := cut_suf (p := p) (q := q) (by omega)
    simp only [List.cons_append, cut1, rest1, hb, Bool.false_eq_true, if_false, h1, h2]
    exact ⟨trivial, trivial⟩
theorem wtxt_count (m : Nat) : (wtxt m).count 46 = 3 := by
  unfold wtxt
  simp only [List.count_append, List.count_cons, suf_no m _ 13 (by decide)]
  rfl
theorem parse_back {m : Nat} (hm : m < 4503599627370496) : parseN (wtxt m) = some m := by
  unfold parseN
  have hlen := wtxt_len m
  rw [if_neg (by rw [wtxt_count]; omega)]
  unfold wtxt
  have n3 := suf_no m 3 13 (by decide); have n2 := suf_no m 2 13 (by decide); have n1 := suf_no m 1 13 (by decide)
  rw [(cut_suf n3).1, (cut_suf n3).2, (cut_suf n2).1, (cut_suf n2).2, (cut_suf n1).1, (cut_suf n1).2]
  obtain ⟨a1, a2⟩ := pp_bwd (r := m) (s := 3) (n := 13) (la := 13) (m := 0) (by decide) (by decide) (fun i _ => Nat.zero_testBit _)
  unfold ppK
  try dsimp only
  rw [if_pos a1]
  generalize (pp 3 (suf m 3 13) 13 0).2 = m3 at a2 ⊢
  obtain ⟨b1, b2⟩ := pp_bwd (r := m) (s := 2) (n := 13) (la := 13) (m := m3) (by decide) (by decide) (fun i hi => by rw [a2, if_neg (by omega)]; exact Nat.zero_testBit _)
  try dsimp only
  rw [if_pos b1]
  generalize (pp 2 (suf m 2 13) 13 m3).2 = m2 at b2 ⊢
  obtain ⟨c1, c2⟩ := pp_bwd (r := m) (s := 1) (n := 13) (la := 13) (m := m2) (by decide) (by decide) (fun i hi => by rw [b2, if_neg (by omega), a2, if_neg (by omega)]; exact Nat.zero_testBit _)
  try dsimp only
  rw [if_pos c1]
  generalize (pp 1 (suf m 1 13) 13 m2).2 = m1 at c2 ⊢
  obtain ⟨d1, d2⟩ := pp_bwd (r := m) (s := 0) (n := 13) (la := 13) (m := m1) (by decide) (by decide) (fun i hi => by rw [c2, if_neg (by omega), b2, if_neg (by omega), a2, if_neg (by omega)]; exact Nat.zero_testBit _)
  try dsimp only
  rw [if_pos d1]
  generalize (pp 0 (suf m 0 13) 13 m1).2 = m0 at d2 ⊢
  congr 1
  apply Nat.eq_of_testBit_eq
  intro i
  rw [d2, c2, b2, a2, Nat.zero_testBit]
  by_cases hi : i < 52
  · split
    · rfl
    · split
      · rfl
      · split
        · rfl
        · rw [if_pos (by omega)]
  · rw [if_neg (by omega), if_neg (by omega), if_neg (by omega), if_neg (by omega), Nat.testBit_lt_two_pow (Nat.lt_of_lt_of_le hm (Nat.le_trans (show 4503599627370496 ≤ 2 ^ 52 by decide) (Nat.pow_le_pow_right (by decide) (by omega))))]
theorem parse_only {l : List UInt8} {m : Nat} (h : parseN l = some m) : l = wtxt m ∧ m < 4503599627370496 := by
  unfold parseN at h
  split at h
  · cases h
  · rename_i hn
    have h3 : l.count 46 = 3 := Classical.byContradiction fun hc => hn (.inr hc)
    obtain ⟨x1, _, x3⟩ := cut_eq (l := l) (by omega)
    obtain ⟨y1, _, y3⟩ := cut_eq (l := rest1 l) (by omega)
    obtain ⟨z1, _, z3⟩ := cut_eq (l := rest1 (rest1 l)) (by omega)
    have z0 : ∀ i, i < 13 → (0 : Nat).testBit (13 * 3 + i) = false := fun i _ => Nat.zero_testBit _
    unfold ppK at h
    try dsimp only at h
    split at h
    · rename_i q1
      obtain ⟨a1, a2⟩ := pp_fwd (Nat.le_refl 13) z0 q1
      have l3 := pp_lt (s := 3) (by decide) (l := cut1 l) (la := 13) (m := 0) (by decide) (by decide)
      generalize (pp 3 (cut1 l) 13 0).2 = m3 at *
      try dsimp only at h
      split at h
      · rename_i q2
        obtain ⟨b1, b2⟩ := pp_fwd (Nat.le_refl 13) (fun i hi => by rw [a2 _ (by omega)]; exact Nat.zero_testBit _) q2
        have l2 := pp_lt (s := 2) (by decide) (l := cut1 (rest1 l)) (la := 13) (m := m3) (by decide) l3
        generalize (pp 2 (cut1 (rest1 l)) 13 m3).2 = m2 at *
        try dsimp only at h
        split at h
        · rename_i q3
          obtain ⟨c1, c2⟩ := pp_fwd (Nat.le_refl 13) (fun i hi => by rw [b2 _ (by omega), a2 _ (by omega)]; exact Nat.zero_testBit _) q3
          have l1 := pp_lt (s := 1) (by decide) (l := cut1 (rest1 (rest1 l))) (la := 13) (m := m2) (by decide) l2
          generalize (pp 1 (cut1 (rest1 (rest1 l))) 13 m2).2 = m1 at *
          try dsimp only at h
          split at h
          · rename_i q4
            obtain ⟨d1, d2⟩ := pp_fwd (Nat.le_refl 13) (fun i hi => by rw [c2 _ (by omega), b2 _ (by omega), a2 _ (by omega)]; exact Nat.zero_testBit _) q4
            have l0 := pp_lt (s := 0) (by decide) (l := rest1 (rest1 (rest1 l))) (la := 13) (m := m1) (by decide) l1
            generalize (pp 0 (rest1 (rest1 (rest1 l))) 13 m1).2 = m0 at *
            cases h
            refine ⟨?_, l0⟩
            unfold wtxt
            rw [suf_congr (r := m) (q := m3) (s := 3) 13 (fun i hi => by rw [d2 _ (by omega), c2 _ (by omega), b2 _ (by omega)]),
              suf_congr (r := m) (q := m2) (s := 2) 13 (fun i hi => by rw [d2 _ (by omega), c2 _ (by omega)]),
              suf_congr (r := m) (q := m1) (s := 1) 13 (fun i hi => by rw [d2 _ (by omega)]), ← a1, ← b1, ← c1, ← d1, ← z1, ← y1]
            exact x1
          · cases h
        · cases h
      · cases h
    · cases h
def prV (s : ByteArray) : Int := match parseN s.data.toList with
  | some m => (m : Nat)
  | none => 0
def prE (s : ByteArray) : Int := match parseN s.data.toList with
  | some _ => 0
  | none => 40
end Go.Proofs.YtpalajfcffdhoaaDoor.N4
