/- Chapter 4: CardWrong answers true. -/
import Derived.Test.YtbocdcnkmcejjaaDoorLWrong
namespace Go.Proofs.YtbocdcnkmcejjaaDoor
open Go Go.Eng
theorem suf_mem {r s : Nat} {b : UInt8} : ∀ n, n ≤ 13 → b ∈ suf r s n → b ∈ rU
  | 0, _, h => by simp [suf] at h
  | n + 1, hn, h => by
    simp only [suf] at h
    split at h
    · rcases List.mem_cons.1 h with rfl | h
      · have hl : n < rU.length := by simp [rU]; omega
        rw [List.getD_eq_getElem?_getD, List.getElem?_eq_getElem hl]
        exact List.getElem_mem hl
      · exact suf_mem n (by omega) h
    · exact suf_mem n (by omega) h
theorem wtxt_mem {m : Nat} {b : UInt8} (h : b ∈ wtxt m) : b ∈ rU ∨ b = 46 := by
  unfold wtxt at h
  simp only [List.mem_append, List.mem_cons] at h
  rcases h with h | h | h | h | h | h | h
  · exact .inl (suf_mem 13 (by decide) h)
  · exact .inr h
  · exact .inl (suf_mem 13 (by decide) h)
  · exact .inr h
  · exact .inl (suf_mem 13 (by decide) h)
  · exact .inr h
  · exact .inl (suf_mem 13 (by decide) h)
theorem parse_bad {l : List UInt8} {b : UInt8} (hb : b ∈ l) (h1 : b ∉ rU) (h2 : b ≠ 46) : parseN l = none := by
  cases h : parseN l with
  | none => rfl
  | some m =>
    have e := (parse_only h).1
    rw [e] at hb
    rcases wtxt_mem hb with h3 | h3
    · exact absurd h3 h1
    · exact absurd h3 h2
theorem parse_cnt {l : List UInt8} (hc : l.count 46 ≠ 3) : parseN l = none := by
  cases h : parseN l with
  | none => rfl
  | some m =>
    have e := (parse_only h).1
    rw [e, wtxt_count] at hc
    exact absurd rfl hc
theorem chk_ok {x : ByteArray} {K : Option V} (h : parseN x.data.toList = none) : chkP x K = K := by
  unfold chkP prV prE
  rw [h]; rfl
theorem cwT_true {m : Nat} {i : Nat} (hi : i ≤ (wtxt m).length) : cwT (bA (wtxt m)) i = some (.bool true) := by
  have hlen := wtxt_len m
  have hd : (bA (wtxt m)).data.toList = wtxt m := rfl
  have e0 : ∀ c, insC (bA (wtxt m)) (i : Int) c = fun K => K := fun c => by
    funext K
    unfold insC
    have x1 : (extS (bA (wtxt m)) (0 : Int).toNat ((i : Int)).toNat).data.toList.length ≤ 55 := by unfold extS; simp [hd]; omega
    have x2 : (extS (bA (wtxt m)) ((i : Int)).toNat (Int.ofNat (lenS (bA (wtxt m)))).toNat).data.toList.length ≤ 55 := by unfold extS; simp [hd]; omega
    have x3 : (catS (extS (bA (wtxt m)) (0 : Int).toNat ((i : Int)).toNat) ⟨⟨[c]⟩⟩).data.toList.length ≤ 56 := by
      show ((extS (bA (wtxt m)) (0 : Int).toNat ((i : Int)).toNat).data.toList ++ [c]).length ≤ 56
      rw [List.length_append, List.length_singleton]; omega
    rw [hd, decide_eq_true (show 0 ≤ (0 : Int) ∧ 0 ≤ (i : Int) ∧ (i : Int) ≤ Int.ofNat (wtxt m).length by simp; omega), decide_eq_true (show (extS (bA (wtxt m)) (0 : Int).toNat ((i : Int)).toNat).data.toList.length + 1 ≤ 9223372036854775807 by omega),
      decide_eq_true (show 0 ≤ (i : Int) ∧ (i : Int) ≤ Int.ofNat (wtxt m).length ∧ Int.ofNat (wtxt m).length ≤ Int.ofNat (wtxt m).length by simp; omega), decide_eq_true (show _ + _ ≤ 9223372036854775807 by omega)]
    rfl
  have e1 : ∀ c, (insS (bA (wtxt m)) (i : Int) c).data.toList = (wtxt m).take i ++ c :: (wtxt m).drop i := fun c => by
    unfold insS catS extS lenS
    rw [hd]
    simp
    rw [List.take_of_length_le (by simp)]
  have hin : ∀ c, c ∈ (insS (bA (wtxt m)) (i : Int) c).data.toList := fun c => by rw [e1]; simp
  have hp : parseN (insS (bA (wtxt m)) (i : Int) 46).data.toList = none := by
    refine parse_cnt ?_
    rw [e1, List.count_append, List.count_cons]
    have : ((wtxt m).take i).count 46 + ((wtxt m).drop i).count 46 = 3 := by rw [← List.count_append, List.take_append_drop, wtxt_count]
    simp only [beq_self_eq_true, if_true]
    omega
  have hs : parseN (catS (bA (wtxt m)) ⟨⟨[32]⟩⟩).data.toList = none := parse_bad (b := 32) (by unfold catS; simp) (by decide) (by decide)
  unfold cwT
  rw [e0, e0, e0, hd, decide_eq_true (show (wtxt m).length + 1 ≤ 9223372036854775807 by omega), chk_ok (parse_bad (hin 120) (by decide) (by decide)), chk_ok hp, chk_ok hs, chk_ok (parse_bad (hin 49) (by decide) (by decide))]
  rfl
theorem maxB_eq (n c : Int) : (maxB n c = n ∨ maxB n c = c) ∧ n ≤ maxB n c ∧ c ≤ maxB n c := by
  unfold maxB foldI foldI maxI
  by_cases h : c > n
  · rw [decide_eq_true h, cond_true]; omega
  · rw [decide_eq_false h, cond_false]; omega
theorem cw_true {m high n at1 : Int} (hm : 0 ≤ m) (hh : 0 ≤ high ∧ high < 256) (hn : 0 ≤ n ∧ n < 256) (ha : 0 ≤ at1 ∧ at1 < 256) :
    evalFn Tryd.prog (orcM tabE plainL) noLoops 100 10 Tryd.f10 [.int .u64 m, .int .u8 high, .int .u8 n, .int .u8 at1] gH (fun v _ => some v) = some (.bool true) := by
  rw [cw_all]
  have e1 : mI m = m % 4503599627370496 := Int.tmod_eq_emod_of_nonneg hm
  obtain ⟨k, hk⟩ : ∃ k : Nat, mI m = k := ⟨(mI m).toNat, by omega⟩
  have hkl : k < 4503599627370496 := by omega
  obtain ⟨q, hq⟩ : ∃ q : Nat, wr .u8 (52 + high.tmod 12) = q ∧ 52 ≤ q ∧ q < 64 := by
    have : high.tmod 12 = high % 12 := Int.tmod_eq_emod_of_nonneg hh.1
    rw [this, wr8 (by omega) (by omega)]
    exact ⟨(52 + high % 12).toNat, by omega, by omega, by omega⟩
  have hB : cwB m high = ((k ||| 2 ^ q : Nat) : Int) ∧ 4503599627370496 ≤ k ||| 2 ^ q := by
    unfold cwB
    have sh : shAmt .u64 (q : Int) = q := by
      unfold shAmt
      show min ((q : Int)).toNat 64 = q
      omega
    have h64 : (2 : Nat) ^ q < 2 ^ 64 := Nat.pow_lt_pow_right (by decide) hq.2.2
    have h52 : (2 : Nat) ^ 52 ≤ 2 ^ q := Nat.pow_le_pow_right (by decide) hq.2.1
    rw [hk, hq.1, sh, Int.one_mul, show (2 : Int) ^ q = ((2 ^ q : Nat) : Int) by rw [Int.natCast_pow]; rfl, wrU (by omega), or_nat (by omega) (by omega)]
    exact ⟨rfl, Nat.le_trans h52 Nat.right_le_or⟩
  obtain ⟨b1, b2⟩ := hB
  have hbig : bigI (cwB m high) = true := by unfold bigI; rw [b1]; exact decide_eq_true (by omega)
  have hE : wrE (cwB m high) = 41 := by
    unfold wrE
    have : decide (4503599627370495 < cwB m high) = true := hbig
    rw [this]; rfl
  obtain ⟨m1, m2, m3⟩ := maxB_eq n 52
  obtain ⟨p1, p2, p3⟩ := maxB_eq n 13
  obtain ⟨r1, r2, r3⟩ := maxB_eq n 4
  have hw : wrV (mI m) = bA (wtxt k) := by
    unfold wrV
    rw [hk, decide_eq_false (show ¬ (4503599627370495 : Int) < (k : Int) by omega), show ((k : Int)).toNat = k by omega]; rfl
  have hlen := wtxt_len k
  have hcI : ∃ i : Nat, cwI m at1 = i ∧ i ≤ (wtxt k).length ∧ ¬ wr .i64 (Int.ofNat (wrV (mI m)).data.toList.length + 1) = 0 := by
    unfold cwI
    rw [hw, show (bA (wtxt k)).data.toList = wtxt k from rfl, wr64 (x := at1) (by omega) (by omega), wr64 (x := Int.ofNat (wtxt k).length + 1) (by simp; omega) (by simp; omega), Int.tmod_eq_emod_of_nonneg ha.1]
    have h1 := Int.emod_nonneg at1 (show Int.ofNat (wtxt k).length + 1 ≠ 0 by simp; omega)
    have h2 := Int.emod_lt_of_pos at1 (show 0 < Int.ofNat (wtxt k).length + 1 by simp only [Int.ofNat_eq_natCast]; omega)
    simp only [Int.ofNat_eq_natCast] at h1 h2 ⊢
    exact ⟨(at1 % (((wtxt k).length : Int) + 1)).toNat, by omega, by omega, by omega⟩
  obtain ⟨i, i1, i2, i3⟩ := hcI
  have hmk : (mkN [3, maxB n 52, 3] 0).1 = 41 := by
    simp only [mkN]
    rw [if_neg (by decide), if_neg (by decide), if_pos (by omega)]
  have htx : txE4 (maxB n 52) = 41 := by unfold txE4; rw [decide_eq_false (by omega)]; rfl
  have hsu : suitI (maxB n 52) = 0 := by unfold suitI; rw [decide_eq_false (by omega)]; rfl
  have hra : rankI (maxB n 52) = 0 := by unfold rankI; rw [decide_eq_false (by omega)]; rfl
  have ho1 : ofE (maxB n 4) 0 = 2 := by unfold ofE; rw [decide_eq_true (show (3 : Int) < maxB n 4 by omega)]; rfl
  have ho2 : ofE 0 (maxB n 13) = 2 := by unfold ofE; rw [decide_eq_true (show (12 : Int) < maxB n 13 by omega)]; rfl
  have i5 : inR (maxB n 52) = true := decide_eq_true (by omega)
  have i6 : inR (maxB n 13) = true := decide_eq_true (by omega)
  rw [hq.1, decide_eq_false (show ¬ (q : Int) < 0 by omega), hbig, decide_eq_true (show 0 ≤ cwB m high by rw [b1]; omega), i5, i6, hE, htx, hmk, hsu, hra, ho1, ho2, decide_eq_true (show 0 ≤ maxB n 52 by omega), decide_eq_false (show ¬ maxB n 52 < 52 by omega),
    decide_eq_true (show 3 < maxB n 4 by omega), decide_eq_true (show 0 ≤ mI m by omega), decide_eq_false i3, i1, hw, cwT_true i2]
  simp
end Go.Proofs.YtbocdcnkmcejjaaDoor
