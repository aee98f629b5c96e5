/- Chapter 4: CardOrder answers true, for any set. -/
import Derived.Test.YtbocdcnkmcejjaaDoorCo2
namespace Go.Proofs.YtbocdcnkmcejjaaDoor
open Go Go.Eng
def co2N (m s : Int) (b : Bool) (g xs : List Int) : RT := some (.normal, [.i m, .b b, .i (wr .u8 (s + 1)), .l g, .l xs], [])
def co2Z (m s : Int) (b : Bool) (g xs : List Int) (z : Bool) (t l : Int) : RT := bif !!z then bif !decide (t = 0) then coRt m g xs else bif !decide (l = 0) then coRt m g xs else co2N m s b g xs else co2N m s b g xs
def co2R (m s : Int) (b : Bool) (g xs : List Int) (z : Bool) (t l : Int) (D : List Int) : RT :=
  bif !(bif !z then decide (0 < Int.ofNat D.length) else !decide (0 < Int.ofNat D.length)) then coRt m g xs else bif !(bif !z then !z else !!z) then coRt m g xs else
    bif !z then coAt D 0 fun v => bif !decide (t = v) then coRt m g xs else coAt D (wr .i64 (Int.ofNat D.length - 1)) fun v => bif !decide (l = v) then coRt m g xs else co2Z m s b g xs z t l
    else co2Z m s b g xs z t l
theorem co_round2 (rd : Option Nat) (m s : Int) (b : Bool) (g xs : List Int) : roundT Tryd.prog (orcW tabD plainL) (coL3 6) 100 1 rd 6 coLp2 coT2 coX2 [.i m, .b b, .i s, .l g, .l xs] =
    bif decide (s < 4) then cond (codesB [(coLp3, coLp3)]) (bif pB (0 ≤ m ∧ m ≤ 4503599627370495 ∧ 0 ≤ s ∧ s ≤ 3 ∧ (0 : Int) = 0 ∧ xs = desc m.toNat 52 ∧ Int.ofNat xs.length = Int.ofNat xs.length ∧ List.replicate 0 (0 : Int) = []) then
      bif decide (0 ≤ m ∧ m < 4503599627370496 ∧ 0 ≤ s ∧ s ≤ 3) then bif eqIs g bruijnL && decide (0 ≤ m ∧ m ≤ 4503599627370495 ∧ 0 ≤ s ∧ s ≤ 3) then
        co2R m s b g xs (hN m.toNat s.toNat == 0) (topN m.toNat s.toNat : Nat) (lowN m.toNat s.toNat : Nat) (desc (hN m.toNat s.toNat) 52)
      else none else none else none) none
    else some (.exit 2, [.i m, .b b, .l g, .l xs], []) := by kernel_rfl
theorem codesC {a : Code} : codesB [(a, a)] = true := by rw [codesB_iff]; intro x hx; simp at hx; rw [hx]
theorem hN_bits {m : Nat} (hm : m < 4503599627370496) (s : Nat) : ∀ i, 52 ≤ i → (hN m s).testBit i = false := fun i hi =>
  Nat.testBit_lt_two_pow (Nat.lt_of_lt_of_le (h_lt hm) (Nat.le_trans (show 4503599627370496 ≤ 2 ^ 52 by decide) (Nat.pow_le_pow_right (by decide) hi)))
theorem desc_first {r : Nat} : ∀ {n t : Nat}, t < n → r.testBit t = true → (∀ i, t < i → r.testBit i = false) → ∃ l, desc r n = (t : Int) :: l
  | 0, t, h, _, _ => by omega
  | n + 1, t, h, h1, h2 => by
    simp only [desc]
    by_cases e : t = n
    · subst e; rw [h1, if_pos rfl]; exact ⟨_, rfl⟩
    · rw [h2 n (by omega), if_neg (by simp)]
      exact desc_first (by omega) h1 h2
theorem co_suit {m s : Nat} {b : Bool} {g xs : List Int} (hm : m < 4503599627370496) :
    co2R m s b g xs (hN m s == 0) (topN m s : Nat) (lowN m s : Nat) (desc (hN m s) 52) = co2N m s b g xs := by
  by_cases h0 : hN m s = 0
  · have e1 : topN m s = 0 := by unfold topN; rw [if_pos h0]
    have e2 : lowN m s = 0 := by unfold lowN; rw [if_pos h0]
    have hd : desc (hN m s) 52 = [] := by rw [h0]; exact desc_skip 52 (Nat.zero_le _) (fun i _ => Nat.zero_testBit i)
    rw [e1, e2, hd, h0]
    rfl
  · obtain ⟨t1, t2⟩ := top_spec hm h0
    obtain ⟨l1, l2⟩ := low_spec hm h0
    have tl := top_lt (s := s) hm
    have ll := low_lt (s := s) hm
    have hlen := desc_len (hN m s) 52
    obtain ⟨q, hq⟩ := desc_first tl t1 fun i hi => Nat.testBit_lt_two_pow (Nat.lt_of_lt_of_le t2 (Nat.pow_le_pow_right (by decide) (by omega)))
    obtain ⟨p, hp⟩ := desc_last l1 l2 52 ll
    have hz : (hN m s == 0) = false := by simpa using h0
    have a1 : (desc (hN m s) 52)[0]? = some (topN m s : Int) := by rw [hq]; rfl
    have hpos : 0 < (desc (hN m s) 52).length := by rw [hq]; simp
    have a2 : (desc (hN m s) 52)[(desc (hN m s) 52).length - 1]? = some (lowN m s : Int) := by rw [hp]; simp
    rw [hz]
    generalize desc (hN m s) 52 = D at *
    have w : wr .i64 (Int.ofNat D.length - 1) = ((D.length - 1 : Nat) : Int) := by
      rw [show Int.ofNat D.length - 1 = ((D.length - 1 : Nat) : Int) by simp; omega]
      exact wr64 (by omega) (by omega)
    have k1 : ∀ K : Int → RT, coAt D 0 K = K (topN m s : Int) := fun K => coAt_some (i := 0) a1
    unfold co2R
    rw [decide_eq_true (show (0 : Int) < Int.ofNat D.length by simp; omega), k1, w, coAt_some a2, decide_eq_true rfl, decide_eq_true rfl]
    rfl
theorem co_loop2 (rd : Option Nat) (m : Nat) (b : Bool) (hm : m < 4503599627370496) : ∀ s : Nat, s ≤ 4 →
    SimC Tryd.prog 1 rd (.loop coLp2) (coT2.at [.i (m : Int), .b b, .i (s : Int), .l bruijnL, .l (desc m 52)]) (.exit 2) (coX2.at [.i (m : Int), .b b, .l bruijnL, .l (desc m 52)]) := by
  refine loop_of_rounds (C := orcW tabD plainL) (L := coL3 6) (N := 100) (me := 6) (T := coT2) (T' := coX2) (orcW_ok tabD_ok plainL_ok) mixed (coL3_ok 6) (by kernel_rfl) (by kernel_rfl) (X := Nat)
    (fun s => [.i (m : Int), .b b, .i (s : Int), .l bruijnL, .l (desc m 52)]) (fun s => s ≤ 4) (fun s => 4 - s)
    (fun _ => (.exit 2, [.i (m : Int), .b b, .l bruijnL, .l (desc m 52)])) ?_
  intro s hs
  have h := co_round2 rd m s b bruijnL (desc m 52)
  by_cases hlt : s < 4
  · have w1 : wr .u8 ((s : Int) + 1) = ((s + 1 : Nat) : Int) := by rw [wr8 (by omega) (by omega)]; omega
    have e1 : ((m : Int)).toNat = m := by omega
    have e2 : ((s : Int)).toNat = s := by omega
    rw [decide_eq_true (show (s : Int) < 4 by omega), codesC, e1, e2, pB_iff.2 ⟨by omega, by omega, by omega, by omega, rfl, rfl, rfl, rfl⟩, decide_eq_true (show 0 ≤ (m : Int) ∧ (m : Int) < 4503599627370496 ∧ 0 ≤ (s : Int) ∧ (s : Int) ≤ 3 by omega),
      eqIs_refl, decide_eq_true (show 0 ≤ (m : Int) ∧ (m : Int) ≤ 4503599627370495 ∧ 0 ≤ (s : Int) ∧ (s : Int) ≤ 3 by omega), co_suit hm] at h
    unfold co2N at h
    rw [w1] at h
    exact ⟨_, _, _, h, codes0, .inl ⟨rfl, s + 1, rfl, by omega, by omega, rfl⟩⟩
  · rw [decide_eq_false (show ¬ (s : Int) < 4 by omega), cond_false] at h
    exact ⟨_, _, _, h, codes0, .inr ⟨by simp, rfl⟩⟩
noncomputable def coTree2 : List PV → Fin
  | [.i m, .b b, .i s, .l g, .l xs] => .br (pB (0 ≤ m ∧ m ≤ 4503599627370495 ∧ s = 0 ∧ xs = desc m.toNat 52 ∧ g = bruijnL)) (.leaf (.exit 2) (coX2.at [.i m, .b b, .l g, .l xs])) .no
  | _ => .no
noncomputable def coSum2 : LoopSum := lsumF 1 coT2 coLp2 coTree2
theorem coSum2_ok : LoopOk Tryd.prog coSum2 := by
  refine lsumF_ok (by kernel_rfl) (fun rd ps e1 s1 h => ?_)
  unfold coTree2 at h
  split at h
  · rename_i m b s g xs
    simp only [Fin.pick] at h
    cases hc : pB (0 ≤ m ∧ m ≤ 4503599627370495 ∧ s = 0 ∧ xs = desc m.toNat 52 ∧ g = bruijnL) with
    | false => rw [hc] at h; cases h
    | true =>
      rw [hc, cond_true] at h
      rw [pB_iff] at hc
      obtain ⟨h0, h1, rfl, rfl, rfl⟩ := hc
      cases h
      obtain ⟨k, rfl⟩ : ∃ k : Nat, m = k := ⟨m.toNat, by omega⟩
      rw [show ((k : Int)).toNat = k by omega]
      exact co_loop2 rd k b (by omega) 0 (by omega)
  · cases h
noncomputable def coL : Loops := sums (fun n => match n with | 6 => some coSum1 | 12 => some coSum2 | _ => none)
theorem coL_ok : loopsOk Tryd.prog coL := by
  intro n g hg
  simp only [coL, sums] at hg
  split at hg
  · cases hg; exact coSum1_ok
  · cases hg; exact coSum2_ok
  · cases hg
end Go.Proofs.YtbocdcnkmcejjaaDoor
