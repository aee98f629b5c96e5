/- Chapter 4: the law CardSmall: its third loop. -/
import Derived.Test.YtbocdcnkmcejjaaDoorLSmall
namespace Go.Proofs.YtbocdcnkmcejjaaDoor
open Go Go.Eng
def csM (c : Int) : Int := wr .u64 (wr .u64 c * 2 ^ shAmt .u64 (wr .i64 (13 * c.tmod 4)))
def csTl (w : ByteArray) : ByteArray := ⟨(List.take ((Int.ofNat (lenS w)).toNat - Int.toNat 1) (List.drop (Int.toNat 1) w.data.toList)).toArray⟩
noncomputable def csEnd (b : Bool) (c : Int) : RT := some (.normal, [.b b, .i (wr .i64 (c + 7)), .l bruijnL], [])
noncomputable def csR3 (N : NO) (b : Bool) (c m : Int) (l : List Int) (w : ByteArray) : RT :=
  bif N.u m then bif N.u m then bif pB (bruijnL = bruijnL) && N.d2 m l w then bif decide (c.tmod 5 = 0) then bif decide ((l ++ [51]).length * 2 ≤ 70368744177664) then bif decide (lenS w + 1 ≤ 9223372036854775807) then
  bif pB (bruijnL = bruijnL) && N.d2 (bitsI .or .u64 m 4503599627370496) (l ++ [51]) (catS w ⟨#[46]⟩) then bif decide (List.take l.length (l ++ [51]) = l) then bif decide ((l ++ [52]).length * 2 ≤ 70368744177664) then bif decide (1 + lenS w ≤ 9223372036854775807) then
  bif pB (bruijnL = bruijnL) && N.d2 m (l ++ [52]) (catS ⟨#[46]⟩ w) then bif decide ((3 : Int) < Int.ofNat (lenS w)) then bif decide ((0 : Int) ≤ 1 ∧ (1 : Int) ≤ Int.ofNat (lenS w) ∧ Int.ofNat (lenS w) ≤ Int.ofNat (lenS w)) then
  bif pB (bruijnL = bruijnL) && N.d2 m [] (csTl w) then csEnd b c else none else none else csEnd b c else none else none else none else none else none else none else none else csEnd b c else none else none else none
theorem cs_round3 (N : NO) (rd : Option Nat) (b : Bool) (c : Int) : roundT Tryd.prog (orcO8 N) noLoops 100 2 rd 8 csLp3 csT3 csX1 [.b b, .i c, .l bruijnL] =
    bif decide (c < 8192) then bif decide (wr .i64 (13 * c.tmod 4) < 0) then none else csR3 N b c (csM c) (N.lV (csM c)) (N.wV (csM c)) else some (.exit 4, [.b b, .l bruijnL], []) := by kernel_rfl
theorem desc_nn (r : Nat) : ∀ n, ∀ c ∈ desc r n, 0 ≤ c
  | 0, c, h => by simp [desc] at h
  | n + 1, c, h => by
    simp only [desc] at h
    split at h
    · rcases List.mem_cons.1 h with rfl | h
      · omega
      · exact desc_nn r n c h
    · exact desc_nn r n c h
theorem csM_nn (c : Int) : 0 ≤ csM c ∧ csM c < 18446744073709551616 := by
  unfold csM
  show 0 ≤ _ % (18446744073709551616 : Int) ∧ _ % (18446744073709551616 : Int) < _
  omega
theorem liV_ok (m : Int) : (∀ c ∈ liV m, 0 ≤ c) ∧ (liV m).length ≤ 52 := by
  unfold liV
  cases decide (4503599627370495 < m) with
  | true => exact ⟨fun c hc => by simp at hc, by simp⟩
  | false =>
    rw [cond_false]
    have := desc_len m.toNat 52
    exact ⟨desc_nn _ _, by omega⟩
theorem wrV_ok (m : Int) : lenS (wrV m) ≤ 60 := by
  unfold wrV
  cases decide (4503599627370495 < m) with
  | true => exact (by decide : (0 : Nat) ≤ 60)
  | false =>
    rw [cond_false]
    have := wtxt_len m.toNat
    show (wtxt m.toNat).length ≤ 60
    omega
theorem d70 {m : Int} {xs : List Int} {s : ByteArray} (h1 : 0 ≤ m) (h2 : ∀ c ∈ xs, 0 ≤ c) (h3 : xs.length ≤ 100000) (h4 : lenS s ≤ 1000000) : D70 m xs s = true := by
  unfold D70
  simp only [Bool.and_eq_true, decide_eq_true_eq, List.all_eq_true]
  exact ⟨h1, h2, h3, h4⟩
theorem csR3_is (b : Bool) (c m : Int) (h0 : 0 ≤ m) (h1 : m < 18446744073709551616) : csR3 O80 b c m (liV m) (wrV m) = csEnd b c := by
  obtain ⟨l1, l2⟩ := liV_ok m
  have w1 := wrV_ok m
  have hor : 0 ≤ bitsI .or .u64 m 4503599627370496 := by
    obtain ⟨k, rfl⟩ : ∃ k : Nat, m = k := ⟨m.toNat, by omega⟩
    have := or_nat (a := k) (b := 4503599627370496) (by omega) (by decide)
    rw [show ((4503599627370496 : Nat) : Int) = 4503599627370496 from rfl] at this
    rw [this]; omega
  have hu : O80.u m = true := decide_eq_true h0
  have ap : ∀ x : Int, 0 ≤ x → ∀ c ∈ liV m ++ [x], 0 ≤ c := fun x hx c hc => by
    rcases List.mem_append.1 hc with h | h
    · exact l1 c h
    · rw [List.mem_singleton] at h; omega
  have apl : ∀ x : Int, (liV m ++ [x]).length ≤ 53 := fun x => by rw [List.length_append, List.length_singleton]; omega
  have s1 : lenS (catS (wrV m) ⟨#[46]⟩) ≤ 1000000 := by
    show ((wrV m).data.toList ++ [46]).length ≤ _
    have : (wrV m).data.toList.length ≤ 60 := w1
    rw [List.length_append, List.length_singleton]; omega
  have s2 : lenS (catS ⟨#[46]⟩ (wrV m)) ≤ 1000000 := by
    show ([46] ++ (wrV m).data.toList).length ≤ _
    have : (wrV m).data.toList.length ≤ 60 := w1
    rw [List.length_append, List.length_singleton]; omega
  have s3 : lenS (csTl (wrV m)) ≤ 1000000 := by
    show (List.take _ (List.drop _ (wrV m).data.toList)).length ≤ _
    have : (wrV m).data.toList.length ≤ 60 := w1
    rw [List.length_take, List.length_drop]; omega
  have d : O80.d2 = D70 := rfl
  unfold csR3
  rw [hu, d, pB_iff.2 rfl, d70 h0 l1 (by omega) (by omega), d70 hor (ap 51 (by decide)) (by have := apl 51; omega) s1, d70 h0 (ap 52 (by decide)) (by have := apl 52; omega) s2, d70 h0 (fun c hc => by cases hc) (by decide) s3,
    decide_eq_true (show (liV m ++ [(51 : Int)]).length * 2 ≤ 70368744177664 by have := apl 51; omega), decide_eq_true (show (liV m ++ [(52 : Int)]).length * 2 ≤ 70368744177664 by have := apl 52; omega),
    decide_eq_true (show lenS (wrV m) + 1 ≤ 9223372036854775807 by omega), decide_eq_true (show 1 + lenS (wrV m) ≤ 9223372036854775807 by omega), decide_eq_true (show List.take (liV m).length (liV m ++ [(51 : Int)]) = liV m from List.take_left)]
  simp only [Bool.and_self, cond_true]
  by_cases h3 : (3 : Int) < Int.ofNat (lenS (wrV m))
  · rw [decide_eq_true h3, decide_eq_true (show (0 : Int) ≤ 1 ∧ (1 : Int) ≤ Int.ofNat (lenS (wrV m)) ∧ Int.ofNat (lenS (wrV m)) ≤ Int.ofNat (lenS (wrV m)) from ⟨by decide, by omega, Int.le_refl _⟩)]
    cases decide (c.tmod 5 = 0) <;> rfl
  · rw [decide_eq_false h3]
    cases decide (c.tmod 5 = 0) <;> rfl
theorem cs_loop3 (rd : Option Nat) (b : Bool) : ∀ c : Nat, c ≤ 8198 → SimC Tryd.prog 2 rd (.loop csLp3) (csT3.at [.b b, .i (c : Int), .l bruijnL]) (.exit 4) (csX1.at [.b b, .l bruijnL]) := by
  refine loop_of_rounds (C := orcO8 O80) (L := noLoops) (N := 100) (me := 8) (T := csT3) (T' := csX1) orcO8_ok mixed noLoops_ok (by kernel_rfl) (by kernel_rfl) (X := Nat)
    (fun c => [.b b, .i (c : Int), .l bruijnL]) (fun c => c ≤ 8198) (fun c => 8198 - c) (fun _ => (.exit 4, [.b b, .l bruijnL])) ?_
  intro c hc
  have h := cs_round3 O80 rd b (c : Int)
  rcases Nat.lt_or_ge c 8192 with hlt | hge
  · have hm : ((c : Int)).tmod 4 = ((c % 4 : Nat) : Int) := by rw [Int.tmod_eq_emod_of_nonneg (by omega)]; omega
    obtain ⟨m0, m1⟩ := csM_nn (c : Int)
    rw [decide_eq_true (show (c : Int) < 8192 by omega), cond_true, hm, wrI64 (x := 13 * ((c % 4 : Nat) : Int)) (by omega) (by omega), decide_eq_false (show ¬ 13 * ((c % 4 : Nat) : Int) < 0 by omega), cond_false, show O80.lV = liV from rfl, show O80.wV = wrV from rfl, csR3_is b _ _ m0 m1] at h
    unfold csEnd at h
    rw [wrI64 (by omega) (by omega)] at h
    exact ⟨_, _, _, h, codesE, .inl ⟨rfl, c + 7, rfl, by omega, by omega, rfl⟩⟩
  · rw [decide_eq_false (show ¬ (c : Int) < 8192 by omega), cond_false] at h
    exact ⟨_, _, _, h, codesE, .inr ⟨by simp, rfl⟩⟩
noncomputable def csTree1 : List PV → Fin
  | [.b b, .i c, .l t] => .br (pB (c = 0 ∧ t = bruijnL)) (.leaf (.exit 0) (csX1.at [.b b, .l bruijnL])) .no
  | _ => .no
noncomputable def csTree3 : List PV → Fin
  | [.b b, .i c, .l t] => .br (pB (c = 0 ∧ t = bruijnL)) (.leaf (.exit 4) (csX1.at [.b b, .l bruijnL])) .no
  | _ => .no
noncomputable def csL : Loops := sums (fun n => match n with | 2 => some (lsumF 2 csT1 csLp1 csTree1) | 13 => some (lsumF 2 csT3 csLp3 csTree3) | _ => none)
theorem csL_ok : loopsOk Tryd.prog csL := by
  intro n g hg
  simp only [csL, sums] at hg
  split at hg
  · cases hg
    refine lsumF_ok (by kernel_rfl) (fun rd ps e1 st1 hq => ?_)
    unfold csTree1 at hq
    split at hq
    · rename_i b c t
      simp only [Fin.pick] at hq
      cases hc : pB (c = 0 ∧ t = bruijnL) with
      | false => rw [hc] at hq; cases hq
      | true =>
        rw [hc, cond_true] at hq
        cases hq
        rw [pB_iff] at hc
        obtain ⟨rfl, rfl⟩ := hc
        exact cs_loop1 rd b 0 (by omega)
    · cases hq
  · cases hg
    refine lsumF_ok (by kernel_rfl) (fun rd ps e1 st1 hq => ?_)
    unfold csTree3 at hq
    split at hq
    · rename_i b c t
      simp only [Fin.pick] at hq
      cases hc : pB (c = 0 ∧ t = bruijnL) with
      | false => rw [hc] at hq; cases hq
      | true =>
        rw [hc, cond_true] at hq
        cases hq
        rw [pB_iff] at hc
        obtain ⟨rfl, rfl⟩ := hc
        exact cs_loop3 rd b 0 (by omega)
    · cases hq
  · cases hg
end Go.Proofs.YtbocdcnkmcejjaaDoor
