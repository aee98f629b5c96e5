/- Texts merged: RQ3, RQ4. -/
import Derived.Test.YtnhilofmafjdpaaDoorRQ
/- Chapter 9: the reference's Read: the loop over the cells: one round. -/
namespace Go.Proofs.YtnhilofmafjdpaaDoor
open Go Go.Eng
def wqC (ln w : ByteArray) (i k : Int) : Bool := decide (0 ≤ i ∧ i ≤ 1000000000 ∧ lenS w = 0 ∧ lenS ln = 20 ∧ k = 5 * i.tmod 4)
def wqD (ln : ByteArray) (i : Int) : ByteArray := wdS ln (i.toNat % 4)
noncomputable def w2Tree (C : ByteArray → ByteArray → Int → Int → Bool) (WD : ByteArray → Int → ByteArray) (nn : Bool) : List PV → Fin
  | [.i v, .i e, .i d, .b en, .i i, .s ln, .s w, .i k, .ss tb, .l l] => .br (C ln w i k) (.leaf (.exit 2) ((w2X nn).at [.i v, .i e, .i d, .b en, .i i, .s (WD ln i), .ss tb, .l l])) .no
  | _ => .no
noncomputable def w2L (C : ByteArray → ByteArray → Int → Int → Bool) (WD : ByteArray → Int → ByteArray) (nn : Bool) : Loops := sums (fun n => match n with | 12 => some (lsumF 1 (w2T nn) w2Lp (w2Tree C WD nn)) | _ => none)
theorem w2L_ok (nn : Bool) : loopsOk Tryd.prog (w2L wqC wqD nn) := by
  intro n g hg
  simp only [w2L, sums] at hg
  split at hg
  · cases hg
    refine lsumF_ok (by cases nn <;> kernel_rfl) (fun rd ps e1 st1 hq => ?_)
    unfold w2Tree at hq
    split at hq
    · rename_i v e d en i ln w k tb l
      simp only [Fin.pick] at hq
      cases hc : wqC ln w i k with
      | false => rw [hc] at hq; cases hq
      | true =>
        rw [hc, cond_true] at hq
        simp only [wqC, decide_eq_true_eq] at hc
        obtain ⟨h1, h2, h3, h4, rfl⟩ := hc
        obtain ⟨n, rfl⟩ := Int.eq_ofNat_of_zero_le h1
        have hw : w = ⟨#[]⟩ := by
          obtain ⟨⟨l⟩⟩ := w
          have : l = [] := List.eq_nil_of_length_eq_zero h3
          subst this; rfl
        subst hw
        have ht : (n : Int).tmod 4 = ((n % 4 : Nat) : Int) := by rw [Int.tmod_eq_emod_of_nonneg (by omega)]; omega
        have h := w2_loop nn rd v e d n en ln tb l (by omega) h4 (5 * (n % 4), ⟨#[]⟩) ⟨by simp, by simp, by simp [lenS]⟩
        dsimp only at h
        rw [show snS ⟨#[]⟩ (wdL ((ln.data.toList.drop (5 * (n % 4))).take (5 * (n % 4) + 5 - 5 * (n % 4)))) = wqD ln (n : Int) by rw [show 5 * (n % 4) + 5 - 5 * (n % 4) = 5 by omega]; rfl, show ((5 * (n % 4) : Nat) : Int) = 5 * (n : Int).tmod 4 by rw [ht]; omega] at h
        cases hq
        exact h
    · cases hq
  · cases hg
noncomputable def w1R (Q : QR) (v e d i : Int) (w : ByteArray) (tb : List ByteArray) (l : List Int) : RT := bif !decide (Q.RE w = 0) then some (.normal, [.i v, .i e, .i d, .b true, .i (wr .i64 (i + 1)), .ss tb, .l l], []) else
  bif decide (Int.ofNat l.length = 319) then some (.normal, [.i v, .i e, .i d, .b true, .i (wr .i64 (i + 1)), .ss tb, .l l], []) else bif decide ((l ++ [Q.RC w]).length * 2 ≤ 70368744177664) then some (.normal, [.i v, .i e, .i d, .b false, .i (wr .i64 (i + 1)), .ss tb, .l (l ++ [Q.RC w])], []) else none
noncomputable def w1W (Q : QR) (v e d i : Int) (w : ByteArray) (tb : List ByteArray) (l : List Int) : RT := bif strEq w dashS then bif decide (i < 4) then some (.normal, [.i v, .i e, .i (wr .u8 (d + 1)), .b false, .i (wr .i64 (i + 1)), .ss tb, .l l], []) else w1R Q v e d i w tb l else w1R Q v e d i w tb l
noncomputable def w1G (Q : QR) (C : ByteArray → ByteArray → Int → Int → Bool) (WD : ByteArray → Int → ByteArray) (v e d i : Int) (tb : List ByteArray) (l : List Int) (s : ByteArray) : RT := bif !decide (Int.ofNat (lenS s) = 20) then some (.ret, [.i 0, .i 92, .i d, .ss tb, .l l], []) else
  cond (codesB [(w2Lp, w2Lp)]) (bif C s ⟨#[]⟩ i (wr .i64 (5 * i.tmod 4)) then w1W Q v e d i (WD s i) tb l else none) none
theorem w1_round (Q : QR) (C : ByteArray → ByteArray → Int → Int → Bool) (WD : ByteArray → Int → ByteArray) (nn : Bool) (rd : Option Nat) (v e d i : Int) (en : Bool) (tb : List ByteArray) (l : List Int) : roundT Tryd.prog (orcR4 Q plainL) (w2L C WD nn) 100 1 rd 54 w1Lp (w1T nn) (w1X nn) [.i v, .i e, .i d, .b en, .i i, .ss tb, .l l] =
    bif decide (i < wr .i64 (4 * Int.ofNat tb.length)) then bif !en then atS tb (wr .i64 (i.tdiv 4)) (fun s => w1G Q C WD v e d i tb l s) else some (.exit 0, [.i v, .i e, .i d, .ss tb, .l l], []) else some (.exit 0, [.i v, .i e, .i d, .ss tb, .l l], []) := by cases nn <;> cases en <;> kernel_rfl
end Go.Proofs.YtnhilofmafjdpaaDoor

/- Chapter 9: the reference's Read: the loops. -/
namespace Go.Proofs.YtnhilofmafjdpaaDoor
open Go Go.Eng
def w1Fin (v e : Int) (tb : List ByteArray) (q : Bool × Int × List Int) : XE × List PV := if q.1 = true then (.exit 0, [.i v, .i e, .i q.2.1, .ss tb, .l q.2.2]) else (.ret, [.i 0, .i 92, .i q.2.1, .ss tb, .l q.2.2])
noncomputable def w1S (v e d : Int) (i : Nat) (w : ByteArray) (tb : List ByteArray) (l : List Int) : RT := bif strEq w dashS && decide (i < 4) then some (.normal, [.i v, .i e, .i (d + 1), .b false, .i ((i + 1 : Nat) : Int), .ss tb, .l l], []) else
  bif !decide (rdE w = 0) || decide (l.length = 319) then some (.normal, [.i v, .i e, .i d, .b true, .i ((i + 1 : Nat) : Int), .ss tb, .l l], []) else some (.normal, [.i v, .i e, .i d, .b false, .i ((i + 1 : Nat) : Int), .ss tb, .l (l ++ [rdC w])], [])
theorem w1W_is {v e d : Int} {i : Nat} {w : ByteArray} {tb : List ByteArray} {l : List Int} (hd : 0 ≤ d ∧ d ≤ 4) (hi : i ≤ 1000000) (hl : l.length ≤ 319) : w1W qR v e d (i : Int) w tb l = w1S v e d i w tb l := by
  have key : w1R qR v e d (i : Int) w tb l = (bif !decide (rdE w = 0) || decide (l.length = 319) then some (.normal, [.i v, .i e, .i d, .b true, .i ((i + 1 : Nat) : Int), .ss tb, .l l], []) else some (.normal, [.i v, .i e, .i d, .b false, .i ((i + 1 : Nat) : Int), .ss tb, .l (l ++ [rdC w])], [])) := by
    unfold w1R
    rw [show qR.RE w = rdE w from rfl, show qR.RC w = rdC w from rfl, wr64 (n := (i : Int) + 1) (by omega) (by omega), decide_eq_true (show (l ++ [rdC w]).length * 2 ≤ 70368744177664 by rw [List.length_append, List.length_singleton]; omega), show (i : Int) + 1 = ((i + 1 : Nat) : Int) by omega]
    cases (!decide (rdE w = 0)) with
    | true => rfl
    | false =>
      by_cases h9 : l.length = 319
      · rw [decide_eq_true h9, decide_eq_true (show Int.ofNat l.length = 319 by rw [h9]; rfl)]; rfl
      · rw [decide_eq_false h9, decide_eq_false (show ¬ Int.ofNat l.length = 319 from fun q => h9 (by have : (l.length : Int) = 319 := q; omega))]; rfl
  unfold w1W w1S
  rw [key, wr_u8_id (n := d + 1) (by omega), wr64 (n := (i : Int) + 1) (by omega) (by omega), show (i : Int) + 1 = ((i + 1 : Nat) : Int) by omega]
  cases strEq w dashS with
  | false => rfl
  | true =>
    by_cases h4 : i < 4
    · rw [decide_eq_true h4, decide_eq_true (show (i : Int) < 4 by omega)]; rfl
    · rw [decide_eq_false h4, decide_eq_false (show ¬ (i : Int) < 4 by omega)]; rfl
theorem w1_loop (nn : Bool) (rd : Option Nat) (v e : Int) (tb : List ByteArray) (ht : tb.length ≤ 100000) : ∀ x : Nat × Int × List Int × Bool, (x.1 ≤ 4 * tb.length ∧ 0 ≤ x.2.1 ∧ x.2.1 ≤ (min x.1 4 : Nat) ∧ x.2.2.1.length ≤ 319) →
    SimC Tryd.prog 1 rd (.loop w1Lp) ((w1T nn).at [.i v, .i e, .i x.2.1, .b x.2.2.2, .i (x.1 : Int), .ss tb, .l x.2.2.1])
      (w1Fin v e tb (bif x.2.2.2 then (true, x.2.1, x.2.2.1) else rfGo tb (4 * tb.length - x.1) x.1 x.2.1 x.2.2.1)).1 ((w1X nn).at (w1Fin v e tb (bif x.2.2.2 then (true, x.2.1, x.2.2.1) else rfGo tb (4 * tb.length - x.1) x.1 x.2.1 x.2.2.1)).2) := by
  refine loop_of_rounds (C := orcR4 qR plainL) (L := w2L wqC wqD nn) (N := 100) (me := 54) (T := w1T nn) (T' := w1X nn) (orcR4_ok plainL_ok) mixed (w2L_ok nn) (by cases nn <;> kernel_rfl) (by cases nn <;> kernel_rfl) (X := Nat × Int × List Int × Bool)
    (fun x => [.i v, .i e, .i x.2.1, .b x.2.2.2, .i (x.1 : Int), .ss tb, .l x.2.2.1]) (fun x => x.1 ≤ 4 * tb.length ∧ 0 ≤ x.2.1 ∧ x.2.1 ≤ (min x.1 4 : Nat) ∧ x.2.2.1.length ≤ 319) (fun x => (4 * tb.length - x.1))
    (fun x => w1Fin v e tb (bif x.2.2.2 then (true, x.2.1, x.2.2.1) else rfGo tb (4 * tb.length - x.1) x.1 x.2.1 x.2.2.1)) ?_
  rintro ⟨i, d, l, en⟩ ⟨hi, hd, hd4, hl⟩
  dsimp only at hi hd hd4 hl ⊢
  have h := w1_round qR wqC wqD nn rd v e d (i : Int) en tb l
  rw [show Int.ofNat tb.length = (tb.length : Int) from rfl, wr64 (n := 4 * (tb.length : Int)) (by omega) (by omega)] at h
  rcases Nat.lt_or_ge i (4 * tb.length) with hlt | hge
  · rw [decide_eq_true (show (i : Int) < 4 * (tb.length : Int) by omega), cond_true] at h
    cases en with
    | true => exact ⟨_, _, _, h, codes0, .inr ⟨by simp, rfl⟩⟩
    | false =>
      have hd1 : (i : Int).tdiv 4 = ((i / 4 : Nat) : Int) := by rw [Int.tdiv_eq_ediv_of_nonneg (by omega)]; omega
      have hi4 : i / 4 < tb.length := by omega
      rw [hd1, wr64 (n := ((i / 4 : Nat) : Int)) (by omega) (by omega)] at h
      simp only [Bool.not_false, cond_true] at h
      rw [atS_at hi4] at h
      have hg : tb.getD (i / 4) noS = tb[i / 4] := by rw [List.getD_eq_getElem?_getD, List.getElem?_eq_getElem hi4]; rfl
      unfold w1G at h
      simp only [cond_false]
      rw [show 4 * tb.length - i = (4 * tb.length - (i + 1)) + 1 by omega]
      simp only [rfGo]
      rw [hg]
      unfold ckS
      by_cases hs : lenS tb[i / 4] = 20
      · have ht4 : (i : Int).tmod 4 = ((i % 4 : Nat) : Int) := by rw [Int.tmod_eq_emod_of_nonneg (by omega)]; omega
        have hC : wqC tb[i / 4] ⟨#[]⟩ (i : Int) (wr .i64 (5 * (i : Int).tmod 4)) = true := by
          unfold wqC
          rw [wr64 (n := 5 * (i : Int).tmod 4) (by omega) (by omega)]
          exact decide_eq_true ⟨by omega, by omega, by simp [lenS], hs, rfl⟩
        rw [hs, codesB_iff.2 (by intro x hx; simp at hx; rw [hx]), hC, show wqD tb[i / 4] (i : Int) = wdS tb[i / 4] (i % 4) from rfl, decide_eq_true (show Int.ofNat 20 = 20 from rfl)] at h
        rw [hs, decide_eq_true (rfl : (20 : Nat) = 20)]
        generalize wdS tb[i / 4] (i % 4) = w at *
        simp only [Bool.not_true, cond_false, cond_true] at h ⊢
        rw [w1W_is ⟨hd, by omega⟩ (by omega) hl] at h
        unfold w1S at h
        cases hb : (strEq w dashS && decide (i < 4)) with
        | true =>
          rw [hb] at h
          simp only [Bool.and_eq_true, decide_eq_true_eq] at hb
          exact ⟨_, _, _, h, codes0, .inl ⟨rfl, (i + 1, d + 1, l, false), rfl, ⟨by simp only; omega, by simp only; omega, by simp only; omega, hl⟩, by simp only; omega, rfl⟩⟩
        | false =>
          rw [hb] at h
          cases hb2 : (!decide (rdE w = 0) || decide (l.length = 319)) with
          | true =>
            rw [hb2] at h
            exact ⟨_, _, _, h, codes0, .inl ⟨rfl, (i + 1, d, l, true), rfl, ⟨by simp only; omega, hd, by simp only; omega, hl⟩, by simp only; omega, rfl⟩⟩
          | false =>
            rw [hb2] at h
            simp only [Bool.or_eq_false_iff, decide_eq_false_iff_not] at hb2
            exact ⟨_, _, _, h, codes0, .inl ⟨rfl, (i + 1, d, l ++ [rdC w], false), rfl, ⟨by simp only; omega, hd, by simp only; omega, by simp only [List.length_append, List.length_singleton]; omega⟩, by simp only; omega, rfl⟩⟩
      · rw [decide_eq_false (show ¬ Int.ofNat (lenS tb[i / 4]) = 20 from fun q => hs (by have : (lenS tb[i / 4] : Int) = 20 := q; omega))] at h
        rw [decide_eq_false hs]
        exact ⟨_, _, _, h, codes0, .inr ⟨by simp, rfl⟩⟩
  · rw [decide_eq_false (show ¬ (i : Int) < 4 * (tb.length : Int) by omega), cond_false] at h
    refine ⟨_, _, _, h, codes0, .inr ⟨by simp, ?_⟩⟩
    rw [show 4 * tb.length - i = 0 by omega]
    cases en <;> rfl
end Go.Proofs.YtnhilofmafjdpaaDoor
