/- Chapter 9: the reference: Contract. -/
import Derived.Test.YtnhilofmafjdpaaDoorRL
import Derived.Test.YtnhilofmafjdpaaDoorEnd4
namespace Go.Proofs.YtnhilofmafjdpaaDoor
open Go Go.Eng
theorem k1_round (R : RH) (TX : Int → ByteArray) (TE : Int → Int) (nn : Bool) (rd : Option Nat) (d e a dn i z1 z2 z3 z4 c1 c2 c3 c4 : Int) (xs : List Int) : roundT Tryd.prog (orcH R (tabK R.SE TX TE) plainL) noLoops 100 1 rd 42 k1Lp (k1T nn) (k1X nn) [.i d, .i e, .i a, .i dn, .i i, .l xs, .i z1, .i z2, .i z3, .i z4, .i c1, .i c2, .i c3, .i c4] =
    bif decide (i < Int.ofNat xs.length) then atU xs i (fun x => bif decide (c3 < x) then atU xs i (fun x => some (.normal, [.i d, .i e, .i a, .i dn, .i (wr .i64 (i + 1)), .l xs, .i z1, .i z2, .i z3, .i z4, .i c1, .i c2, .i x, .i c4], [])) else
      some (.normal, [.i d, .i e, .i a, .i dn, .i (wr .i64 (i + 1)), .l xs, .i z1, .i z2, .i z3, .i z4, .i c1, .i c2, .i c3, .i c4], [])) else some (.exit 0, [.i d, .i e, .i a, .i dn, .l xs, .i z1, .i z2, .i z3, .i z4, .i c1, .i c2, .i c3, .i c4], []) := by cases nn <;> kernel_rfl
noncomputable def k2G (SE : Int → Int → Int) (x d dn i : Int) (N : Int → RT) (Z : RT) : RT := bif decide (0 ≤ x ∧ x < 256) then bif isBid x then bif decide (dnZ x = dn) then bif decide (0 ≤ d ∧ d < 256 ∧ 0 ≤ i ∧ i ≤ 1000000) then N (SE d i) else none else Z else Z else none
theorem k2_round (R : RH) (TX : Int → ByteArray) (TE : Int → Int) (nn : Bool) (rd : Option Nat) (d e dn i z1 z2 z3 z4 c1 c2 c3 c4 : Int) (xs : List Int) : roundT Tryd.prog (orcH R (tabK R.SE TX TE) plainL) noLoops 100 1 rd 42 k2Lp (k2T nn) (k2X nn) [.i d, .i e, .i dn, .i i, .l xs, .i z1, .i z2, .i z3, .i z4, .i c1, .i c2, .i c3, .i c4] =
    bif decide (0 ≤ i) then atU xs i (fun x => k2G R.SE x d dn i (fun s => some (.normal, [.i d, .i e, .i dn, .i (wr .i64 (i - 2)), .l xs, .i z1, .i z2, .i z3, .i z4, .i c1, .i c2, .i c3, .i s], []))
      (some (.normal, [.i d, .i e, .i dn, .i (wr .i64 (i - 2)), .l xs, .i z1, .i z2, .i z3, .i z4, .i c1, .i c2, .i c3, .i c4], []))) else some (.exit 2, [.i e, .l xs, .i z1, .i z2, .i z3, .i z4, .i c1, .i c2, .i c3, .i c4], []) := by cases nn <;> kernel_rfl
theorem orcHK : OracleOk Tryd.prog (orcH rH (tabK rH.SE rtxt rtxE) plainL) := orcH_ok (tabRP_ok (tabSe_ok emptyTab_ok)) plainL_ok
theorem k1_loop (nn : Bool) (rd : Option Nat) (d e at_ dn z1 z2 z3 z4 c1 c2 c4 R : Int) (xs : List Int) (hl : xs.length ≤ 1000000) (hu : allU xs = true) (a : Nat) : ∀ x : Nat × Int, (a + 1 + x.1 ≤ xs.length ∧ 0 ≤ x.2 ∧ rkF x.1 x.2 (xs.drop (a + 1 + x.1)) = some R) →
    SimC Tryd.prog 1 rd (.loop k1Lp) ((k1T nn).at [.i d, .i e, .i at_, .i dn, .i ((a + 1 + x.1 : Nat) : Int), .l xs, .i z1, .i z2, .i z3, .i z4, .i c1, .i c2, .i x.2, .i c4]) (.exit 0) ((k1X nn).at [.i d, .i e, .i at_, .i dn, .l xs, .i z1, .i z2, .i z3, .i z4, .i c1, .i c2, .i R, .i c4]) := by
  refine loop_of_rounds (C := orcH rH (tabK rH.SE rtxt rtxE) plainL) (L := noLoops) (N := 100) (me := 42) (T := k1T nn) (T' := k1X nn) orcHK mixed noLoops_ok (by cases nn <;> kernel_rfl) (by cases nn <;> kernel_rfl) (X := Nat × Int)
    (fun x => [.i d, .i e, .i at_, .i dn, .i ((a + 1 + x.1 : Nat) : Int), .l xs, .i z1, .i z2, .i z3, .i z4, .i c1, .i c2, .i x.2, .i c4]) (fun x => a + 1 + x.1 ≤ xs.length ∧ 0 ≤ x.2 ∧ rkF x.1 x.2 (xs.drop (a + 1 + x.1)) = some R) (fun x => xs.length - x.1) (fun _ => (.exit 0, [.i d, .i e, .i at_, .i dn, .l xs, .i z1, .i z2, .i z3, .i z4, .i c1, .i c2, .i R, .i c4])) ?_
  rintro ⟨k, r⟩ ⟨hk, h0r, hr⟩
  dsimp only at hk h0r hr ⊢
  have h := k1_round rH rtxt rtxE nn rd d e at_ dn ((a + 1 + k : Nat) : Int) z1 z2 z3 z4 c1 c2 r c4 xs
  rcases Nat.lt_or_ge (a + 1 + k) xs.length with hlt | hge
  · rw [decide_eq_true (show ((a + 1 + k : Nat) : Int) < Int.ofNat xs.length by show _ < (xs.length : Int); omega), cond_true, atU_at hlt, atU_at hlt, wr64 (n := ((a + 1 + k : Nat) : Int) + 1) (by omega) (by omega)] at h
    rw [List.drop_eq_getElem_cons hlt] at hr
    have hx : 0 ≤ xs[a + 1 + k] ∧ xs[a + 1 + k] < 256 := by rw [allU_iff] at hu; exact hu _ (List.getElem_mem hlt)
    generalize xs[a + 1 + k] = x at *
    unfold rkF at hr
    by_cases h0 : x = 0
    · rw [if_pos h0] at hr
      rw [decide_eq_false (show ¬ r < x by omega)] at h
      exact ⟨_, _, _, h, codes0, .inl ⟨rfl, (k + 1, r), by simp; omega, ⟨by omega, h0r, hr⟩, by simp; omega, rfl⟩⟩
    · rw [if_neg h0] at hr
      by_cases h1 : x = r + 1 ∧ decide (k % 2 = 1) = decide (r = 1)
      · rw [if_pos h1] at hr
        rw [decide_eq_true (show r < x by omega), h1.1] at h
        exact ⟨_, _, _, h, codes0, .inl ⟨rfl, (k + 1, r + 1), by simp; omega, ⟨by omega, by simp only; omega, hr⟩, by simp; omega, rfl⟩⟩
      · rw [if_neg h1] at hr; cases hr
  · rw [decide_eq_false (show ¬ ((a + 1 + k : Nat) : Int) < Int.ofNat xs.length from fun h => by have : ((a + 1 + k : Nat) : Int) < (xs.length : Int) := h; omega), cond_false] at h
    rw [List.drop_eq_nil_of_le (by omega)] at hr
    cases hr
    exact ⟨_, _, _, h, codes0, .inr ⟨by simp, rfl⟩⟩
theorem k2_loop (nn : Bool) (rd : Option Nat) (d e dn z1 z2 z3 z4 c1 c2 c3 : Int) (xs : List Int) (hl : xs.length ≤ 1000000) (hu : allU xs = true) (hd : 0 ≤ d ∧ d < 4) (sd : Int) (i0 : Nat) (hi0 : i0 < xs.length) (ht : fCond d sd dn i0 xs[i0] = true) (hf : ∀ j, ∀ hj : j < i0, fCond d sd dn j (xs[j]'(by omega)) = false) : ∀ x : Int × Int, (-2 ≤ x.1 ∧ x.1 < (xs.length : Int) ∧ (d + x.1) % 2 = sd ∧ (x.1 < (i0 : Int) → x.2 = (d + (i0 : Int)) % 4)) →
    SimC Tryd.prog 1 rd (.loop k2Lp) ((k2T nn).at [.i d, .i e, .i dn, .i x.1, .l xs, .i z1, .i z2, .i z3, .i z4, .i c1, .i c2, .i c3, .i x.2]) (.exit 2) ((k2X nn).at [.i e, .l xs, .i z1, .i z2, .i z3, .i z4, .i c1, .i c2, .i c3, .i ((d + (i0 : Int)) % 4)]) := by
  refine loop_of_rounds (C := orcH rH (tabK rH.SE rtxt rtxE) plainL) (L := noLoops) (N := 100) (me := 42) (T := k2T nn) (T' := k2X nn) orcHK mixed noLoops_ok (by cases nn <;> kernel_rfl) (by cases nn <;> kernel_rfl) (X := Int × Int)
    (fun x => [.i d, .i e, .i dn, .i x.1, .l xs, .i z1, .i z2, .i z3, .i z4, .i c1, .i c2, .i c3, .i x.2]) (fun x => -2 ≤ x.1 ∧ x.1 < (xs.length : Int) ∧ (d + x.1) % 2 = sd ∧ (x.1 < (i0 : Int) → x.2 = (d + (i0 : Int)) % 4)) (fun x => (x.1 + 2).toNat) (fun _ => (.exit 2, [.i e, .l xs, .i z1, .i z2, .i z3, .i z4, .i c1, .i c2, .i c3, .i ((d + (i0 : Int)) % 4)])) ?_
  rintro ⟨i, s⟩ ⟨hm, hi, hp, hs⟩
  dsimp only at hm hi hp hs ⊢
  have h := k2_round rH rtxt rtxE nn rd d e dn i z1 z2 z3 z4 c1 c2 c3 s xs
  have hi0s : (d + (i0 : Int)) % 2 = sd := by
    unfold fCond at ht
    simp only [Bool.and_eq_true, decide_eq_true_eq] at ht
    exact ht.2.2
  by_cases h0 : 0 ≤ i
  · obtain ⟨n, rfl⟩ : ∃ n : Nat, i = (n : Int) := ⟨i.toNat, by omega⟩
    have hn : n < xs.length := by omega
    have hx : 0 ≤ xs[n] ∧ xs[n] < 256 := by rw [allU_iff] at hu; exact hu _ (List.getElem_mem hn)
    have e2 : wr .i64 ((n : Int) - 2) = (n : Int) - 2 := wr64 (by omega) (by omega)
    have hcd : fCond d sd dn n xs[n] = (isBid xs[n] && decide (dnZ xs[n] = dn)) := by
      unfold fCond dnZ
      rw [decide_eq_true hp]
      cases isBid xs[n] <;> simp
    rw [decide_eq_true h0, cond_true, atU_at hn, e2] at h
    unfold k2G at h
    rw [decide_eq_true hx, decide_eq_true (show 0 ≤ d ∧ d < 256 ∧ 0 ≤ (n : Int) ∧ (n : Int) ≤ 1000000 by omega), show rH.SE d (n : Int) = (d + (n : Int)) % 4 from rfl] at h
    by_cases hc : fCond d sd dn n xs[n] = true
    · have hnn : i0 ≤ n := by
        rcases Nat.lt_or_ge n i0 with hlt | hge
        · rw [hf n hlt] at hc; cases hc
        · exact hge
      rw [hcd, Bool.and_eq_true] at hc
      rw [hc.1, hc.2] at h
      refine ⟨_, _, _, h, codes0, .inl ⟨rfl, ((n : Int) - 2, (d + (n : Int)) % 4), rfl, ⟨by simp only; omega, by simp only; omega, by simp only; omega, fun hlt => ?_⟩, by simp only; omega, rfl⟩⟩
      simp only at hlt ⊢
      omega
    · have hcf : fCond d sd dn n xs[n] = false := by simpa using hc
      have hne : n ≠ i0 := by rintro rfl; exact hc ht
      have h' : some (XE.normal, [PV.i d, .i e, .i dn, .i ((n : Int) - 2), .l xs, .i z1, .i z2, .i z3, .i z4, .i c1, .i c2, .i c3, .i s], []) = roundT Tryd.prog (orcH rH (tabK rH.SE rtxt rtxE) plainL) noLoops 100 1 rd 42 k2Lp (k2T nn) (k2X nn) [.i d, .i e, .i dn, .i (n : Int), .l xs, .i z1, .i z2, .i z3, .i z4, .i c1, .i c2, .i c3, .i s] := by
        rw [h]
        rw [hcd] at hcf
        cases hb : isBid xs[n] with
        | false => rfl
        | true =>
          rw [hb, Bool.true_and] at hcf
          rw [hcf]; rfl
      refine ⟨_, _, _, h'.symm, codes0, .inl ⟨rfl, ((n : Int) - 2, s), rfl, ⟨by simp only; omega, by simp only; omega, by simp only; omega, fun hlt => ?_⟩, by simp only; omega, rfl⟩⟩
      simp only at hlt ⊢
      exact hs (by omega)
  · rw [decide_eq_false h0, cond_false, hs (by omega)] at h
    rw [hs (by omega)]
    exact ⟨_, _, _, h, codes0, .inr ⟨by simp, rfl⟩⟩
end Go.Proofs.YtnhilofmafjdpaaDoor
