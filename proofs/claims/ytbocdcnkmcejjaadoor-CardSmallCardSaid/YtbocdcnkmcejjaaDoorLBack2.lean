/- Chapter 4: CardBack answers true. -/
import Derived.Test.YtbocdcnkmcejjaaDoorLOrder
namespace Go.Proofs.YtbocdcnkmcejjaaDoor
open Go Go.Eng
theorem desc_suf (r s : Nat) : ∀ n, (desc r (13 * s + n)).length = (suf r s n).length + (desc r (13 * s)).length
  | 0 => by simp [suf]
  | n + 1 => by
    have ih := desc_suf r s n
    rw [show 13 * s + (n + 1) = (13 * s + n) + 1 by omega]
    simp only [desc, suf]
    cases r.testBit (13 * s + n) <;> simp [ih]
    omega
theorem wtxt_desc (m : Nat) : (wtxt m).length = (desc m 52).length + 3 := by
  have h3 : (desc m 52).length = (suf m 3 13).length + (desc m 39).length := desc_suf m 3 13
  have h2 : (desc m 39).length = (suf m 2 13).length + (desc m 26).length := desc_suf m 2 13
  have h1 : (desc m 26).length = (suf m 1 13).length + (desc m 13).length := desc_suf m 1 13
  have h0 : (desc m 13).length = (suf m 0 13).length + (desc m 0).length := desc_suf m 0 13
  have hz : (desc m 0).length = 0 := rfl
  simp only [wtxt, List.length_append, List.length_cons]
  omega
theorem desc_bit {r : Nat} {t : Nat} : ∀ {n : Nat}, ((t : Int) ∈ desc r n) ↔ (t < n ∧ r.testBit t = true)
  | 0 => by simp [desc]
  | n + 1 => by
    have ih := desc_bit (r := r) (t := t) (n := n)
    simp only [desc]
    by_cases e : t = n
    · subst e
      cases hb : r.testBit t with
      | true => simp
      | false => rw [if_neg (by simp), ih, hb]; simp
    · cases hb : r.testBit n with
      | true =>
        rw [if_pos rfl, List.mem_cons, ih]
        constructor
        · rintro (h | h)
          · omega
          · exact ⟨by omega, h.2⟩
        · rintro ⟨h1, h2⟩; exact .inr ⟨by omega, h2⟩
      | false => rw [if_neg (by simp), ih]; constructor <;> (rintro ⟨h1, h2⟩; exact ⟨by omega, h2⟩)
theorem desc_nodup (r n : Nat) : (desc r n).Nodup := (desc_sorted r n).imp (fun h => by omega)
theorem mkN_set : ∀ {l : List Int} {m : Nat}, (∀ c ∈ l, 0 ≤ c ∧ c ≤ 51) → l.Nodup → (∀ c ∈ l, m.testBit c.toNat = false) → (mkN l m).1 = 0 ∧ ∀ i : Nat, (mkN l m).2.testBit i = (m.testBit i || decide ((i : Int) ∈ l))
  | [], m, _, _, _ => ⟨rfl, fun i => by simp [mkN]⟩
  | c :: r, m, h1, h2, h3 => by
    have hc := h1 c (by simp)
    rw [List.nodup_cons] at h2
    simp only [mkN]
    rw [if_neg (by omega), if_neg (by rw [h3 c (by simp)]; simp)]
    obtain ⟨q1, q2⟩ := mkN_set (l := r) (m := m ||| 2 ^ c.toNat) (fun d hd => h1 d (by simp [hd])) h2.2 (fun d hd => by
      rw [or_test, h3 d (by simp [hd]), decide_eq_false (fun e => by
        have hd2 := h1 d (by simp [hd])
        have : c = d := by omega
        exact h2.1 (this ▸ hd))]
      rfl)
    refine ⟨q1, fun i => ?_⟩
    rw [q2 i, or_test, Bool.or_assoc]
    congr 1
    by_cases e : c.toNat = i
    · have : (i : Int) = c := by omega
      rw [decide_eq_true e, this]; simp
    · have : ¬ (i : Int) = c := by omega
      rw [decide_eq_false e]; simp [this]
theorem mkN_twice : ∀ {l : List Int} {m : Nat} {v : Int}, (mkN l m).1 = 0 → 0 ≤ v → v ≤ 51 → (mkN l m).2.testBit v.toNat = true → (mkN (l ++ [v]) m).1 = 42
  | [], m, v, _, h0, h1, h => by
    simp only [mkN] at h
    simp only [List.nil_append, mkN]
    rw [if_neg (by omega), if_pos h]
  | c :: r, m, v, he, h0, h1, h => by
    simp only [mkN] at he h
    simp only [List.cons_append, mkN]
    split at he
    · simp at he
    · rename_i hc
      rw [if_neg hc] at h ⊢
      split at he
      · simp at he
      · rename_i hb
        rw [if_neg hb] at h ⊢
        exact mkN_twice he h0 h1 h
theorem strEq_refl (a : ByteArray) : strEq a a = true := by rw [← strEq_eq]; simp
theorem strEq_bA {l r : List UInt8} (h : strEq (bA l) (bA r) = true) : l = r := by
  unfold strEq at h
  rw [beqBs_eq] at h
  simpa [bA] using h
theorem cb_end {s : ByteArray} : cbE s = some (.bool true) := by
  unfold cbE prE prV
  cases h : parseN s.data.toList with
  | none => rfl
  | some m =>
    obtain ⟨h1, h2⟩ := parse_only h
    have hw : wrV (m : Int) = s := by
      unfold wrV
      rw [decide_eq_false (show ¬ (4503599627370495 : Int) < (m : Int) by omega), show ((m : Int)).toNat = m by omega, cond_false, ← h1]; rfl
    have hE : wrE (m : Int) = 0 := by unfold wrE; rw [decide_eq_false (show ¬ (4503599627370495 : Int) < (m : Int) by omega)]; rfl
    dsimp only
    rw [hw, hE, strEq_refl, decide_eq_true (show (0 : Int) ≤ (m : Int) by omega)]
    rfl
theorem cb_mid {m : Nat} {n : Nat} {s : ByteArray} (hm : m < 4503599627370496) (hn : n < (desc m 52).length) : cbM (m : Int) (desc m 52) (n : Int) s = some (.bool true) := by
  have hl := desc_len m 52
  have hmem : ∀ c ∈ desc m 52, 0 ≤ c ∧ c ≤ 51 := fun c hc => by
    obtain ⟨t, rfl, h1, _⟩ := desc_mem hc
    omega
  have hnd := desc_nodup m 52
  have hbit := fun t => desc_bit (r := m) (t := t) (n := 52)
  generalize hD : desc m 52 = D at *
  have hT : ((D.drop (n : Int).toNat).take ((Int.ofNat D.length).toNat - (n : Int).toNat) ++ (D.drop 0).take ((n : Int).toNat - 0)) = D.drop n ++ D.take n := by
    rw [show ((n : Int)).toNat = n by omega, show (Int.ofNat D.length).toNat = D.length from rfl, List.take_of_length_le (by simp), List.drop_zero, Nat.sub_zero]
  have hperm : (D.drop n ++ D.take n).Perm D := (List.perm_append_comm).trans (by rw [List.take_append_drop])
  have hTl : (D.drop n ++ D.take n).length = D.length := hperm.length_eq
  have hTm : ∀ c ∈ D.drop n ++ D.take n, 0 ≤ c ∧ c ≤ 51 := fun c hc => hmem c (hperm.mem_iff.1 hc)
  obtain ⟨k1, k2⟩ := mkN_set (m := 0) hTm (hperm.nodup_iff.2 hnd) (fun c _ => Nat.zero_testBit _)
  have hset : (mkN (D.drop n ++ D.take n) 0).2 = m := Nat.eq_of_testBit_eq fun i => by
    rw [k2 i, Nat.zero_testBit, Bool.false_or]
    by_cases hi : (i : Int) ∈ D.drop n ++ D.take n
    · rw [decide_eq_true hi]
      exact ((hbit i).1 (hperm.mem_iff.1 hi)).2.symm
    · rw [decide_eq_false hi]
      cases hb : m.testBit i with
      | false => rfl
      | true =>
        have h52 : i < 52 := by
          by_cases h : i < 52
          · exact h
          · rw [Nat.testBit_lt_two_pow (Nat.lt_of_lt_of_le hm (Nat.le_trans (show 4503599627370496 ≤ 2 ^ 52 by decide) (Nat.pow_le_pow_right (show 0 < 2 by decide) (show 52 ≤ i by omega))))] at hb
            cases hb
        exact absurd (hperm.mem_iff.2 ((hbit i).2 ⟨h52, hb⟩)) hi
  have hV : mkV (D.drop n ++ D.take n) = (m : Int) := by
    unfold mkV mkZ
    rw [k1, hset]; rfl
  have hget : D[n]? = some D[n] := List.getElem?_eq_getElem hn
  have hv : D[n] ∈ D.drop n ++ D.take n := hperm.mem_iff.2 (List.getElem_mem hn)
  generalize D[n] = v at hget hv
  have hv2 := hTm v hv
  have htw : (mkN (D.drop n ++ D.take n ++ [v]) 0).1 = 42 := mkN_twice k1 hv2.1 hv2.2 (by
    rw [k2, show ((v.toNat : Nat) : Int) = v by omega, decide_eq_true hv, Bool.or_true])
  have hV2 : mkV (D.drop n ++ D.take n ++ [v]) = 0 := by
    unfold mkV mkZ
    rw [htw]; rfl
  have hall : (D.drop n ++ D.take n).all (fun c => decide (0 ≤ c)) = true := List.all_eq_true.2 fun c hc => decide_eq_true (hTm c hc).1
  have hall2 : (D.drop n ++ D.take n ++ [v]).all (fun c => decide (0 ≤ c)) = true := by
    rw [List.all_append, hall]; simp [hv2.1]
  unfold cbM
  rw [hT]
  unfold cbK
  have hl2 : (D.drop n ++ D.take n ++ [v]).length = D.length + 1 := by rw [List.length_append, hTl]; rfl
  have hl3 : ((D.drop (n : Int).toNat).take ((Int.ofNat D.length).toNat - (n : Int).toNat)).length ≤ 52 := by simp; omega
  rw [decide_eq_true (show 0 ≤ (n : Int) ∧ (n : Int) ≤ Int.ofNat D.length ∧ Int.ofNat D.length ≤ Int.ofNat D.length by simp; omega), decide_eq_true (show (n : Int).toNat + ((Int.ofNat D.length).toNat - (n : Int).toNat) ≤ D.length by simp; omega),
    decide_eq_true (show ((D.drop (n : Int).toNat).take ((Int.ofNat D.length).toNat - (n : Int).toNat)).length * 2 ≤ 70368744177664 by omega), decide_eq_true (show 0 ≤ (0 : Int) ∧ 0 ≤ (n : Int) ∧ (n : Int) ≤ Int.ofNat D.length by simp; omega),
    decide_eq_true (show 0 + ((n : Int).toNat - 0) ≤ D.length by omega), hTl, hall, hV, k1, decide_eq_true (show D.length * 2 ≤ 70368744177664 by omega), decide_eq_true (show D.length ≤ 100000 by omega),
    decide_eq_true (show 0 ≤ (n : Int) ∧ (n : Int) < Int.ofNat D.length by simp; omega), show ((n : Int)).toNat = n by omega, hget]
  dsimp only
  rw [hl2, hall2, htw, hV2, decide_eq_true (show (D.length + 1) * 2 ≤ 70368744177664 by omega), decide_eq_true (show D.length + 1 ≤ 100000 by omega), cb_end]
  simp
theorem cb_true {a b k : Int} {s : ByteArray} (ha : 0 ≤ a) (hb : 0 ≤ b) (hk : 0 ≤ k ∧ k < 256) : evalFn Tryd.prog (orcM tabB plainL) noLoops 100 9 Tryd.f9 [.int .u64 a, .int .u64 b, .str s, .int .u8 k] gH (fun v _ => some v) = some (.bool true) := by
  rw [cb_all]
  have e1 : mI a = a % 4503599627370496 := Int.tmod_eq_emod_of_nonneg ha
  have e2 : mI b = b % 4503599627370496 := Int.tmod_eq_emod_of_nonneg hb
  obtain ⟨x, hx⟩ : ∃ x : Nat, mI a = x := ⟨(mI a).toNat, by omega⟩
  obtain ⟨y, hy⟩ : ∃ y : Nat, mI b = y := ⟨(mI b).toNat, by omega⟩
  have hxl : x < 4503599627370496 := by omega
  have hyl : y < 4503599627370496 := by omega
  rw [hx, hy, show ((x : Int)).toNat = x by omega]
  have wE : ∀ z : Nat, z < 4503599627370496 → wrE (z : Int) = 0 := fun z hz => by unfold wrE; rw [decide_eq_false (show ¬ (4503599627370495 : Int) < (z : Int) by omega)]; rfl
  have wV : ∀ z : Nat, z < 4503599627370496 → wrV (z : Int) = bA (wtxt z) := fun z hz => by
    unfold wrV; rw [decide_eq_false (show ¬ (4503599627370495 : Int) < (z : Int) by omega), show ((z : Int)).toNat = z by omega]; rfl
  have hp : prE (bA (wtxt x)) = 0 ∧ prV (bA (wtxt x)) = x := by
    unfold prE prV
    rw [show (bA (wtxt x)).data.toList = wtxt x from rfl, parse_back hxl]
    exact ⟨rfl, rfl⟩
  have hlen := wtxt_desc x
  have hdl := desc_len x 52
  have hs : (bif strEq (bA (wtxt x)) (bA (wtxt y)) then decide ((x : Int) = y) else !decide ((x : Int) = y)) = true := by
    cases hq : strEq (bA (wtxt x)) (bA (wtxt y)) with
    | true =>
      have he := strEq_bA hq
      have h1 := parse_back hxl
      rw [he, parse_back hyl] at h1
      cases h1
      simp
    | false =>
      have : ¬ (x : Int) = y := fun he => by
        have : x = y := by omega
        subst this
        rw [strEq_refl] at hq
        cases hq
      rw [decide_eq_false this]; rfl
  unfold cbA
  rw [wE x hxl, wE y hyl, wV x hxl, wV y hyl, hp.1, hp.2, hs, cb_end, show (bA (wtxt x)).data.toList = wtxt x from rfl, hlen, wr64 (x := ((desc x 52).length : Int) + 3) (by omega) (by omega),
    decide_eq_true (show (0 : Int) ≤ x by omega), decide_eq_true (show (0 : Int) ≤ y by omega), decide_eq_true (show (0 : Int) ≤ x ∧ (x : Int) < 4503599627370496 by omega),
    decide_eq_true (show Int.ofNat ((desc x 52).length + 3) = ((desc x 52).length : Int) + 3 by simp), decide_eq_true (show Int.ofNat (desc x 52).length = ((desc x 52).length : Nat) from rfl)]
  by_cases h0 : (desc x 52).length = 0
  · rw [h0]; simp
  · have hn : ∃ n : Nat, (wr .i64 k).tmod (Int.ofNat (desc x 52).length) = n ∧ n < (desc x 52).length := by
      rw [wr64 (by omega) (by omega), Int.tmod_eq_emod_of_nonneg hk.1]
      have q1 := Int.emod_nonneg k (show Int.ofNat (desc x 52).length ≠ 0 by simp only [Int.ofNat_eq_natCast]; omega)
      have q2 := Int.emod_lt_of_pos k (show 0 < Int.ofNat (desc x 52).length by simp only [Int.ofNat_eq_natCast]; omega)
      simp only [Int.ofNat_eq_natCast] at q1 q2 ⊢
      exact ⟨(k % ((desc x 52).length : Int)).toNat, by omega, by omega⟩
    obtain ⟨n, n1, n2⟩ := hn
    rw [n1, cb_mid hxl n2, decide_eq_true (show 0 < Int.ofNat (desc x 52).length by simp only [Int.ofNat_eq_natCast]; omega), decide_eq_false (show ¬ Int.ofNat (desc x 52).length = 0 by simp only [Int.ofNat_eq_natCast]; omega)]
    simp
end Go.Proofs.YtbocdcnkmcejjaaDoor
