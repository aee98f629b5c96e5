/- Texts merged: Rd2, Rd3. -/
import Derived.Test.YtnhilofmafjdpaaDoorRK3
import Derived.Test.YtnhilofmafjdpaaDoorKit2
/- Chapter 9: auction.Read: the loop over a line's cells, the loop that compares. -/
namespace Go.Proofs.YtnhilofmafjdpaaDoor
open Go Go.Eng
noncomputable def rcT (R : RN) (t : ByteArray) (l : List Int) (Zc : List Int → RT) (Zr Zn : RT) : RT := bif decide (R.RE t = 0) then bif decide ((l ++ [R.RC t]).length * 2 ≤ 70368744177664) then Zc (l ++ [R.RC t]) else none else bif !strEq t askS then bif !strEq t noS then Zr else Zn else Zn
noncomputable def rcG (R : RN) (t : ByteArray) (d : Int) (l : List Int) (Zd : RT) (Zc : List Int → RT) (Zr Zn : RT) : RT := bif strEq t dashS then bif decide (d < 3) then Zd else rcT R t l Zc Zr Zn else rcT R t l Zc Zr Zn
def c4 (t0 t1 t2 t3 : ByteArray) : Nat → ByteArray
  | 0 => t0
  | 1 => t1
  | 2 => t2
  | _ => t3
noncomputable def r2E (R : RN) (t : ByteArray) (v e d n i j : Int) (t0 t1 t2 t3 : ByteArray) (tl tb : List ByteArray) (l : List Int) : RT := bif pB (tl = textsL) then rcG R t d l (some (.normal, [.i v, .i e, .i (wr .u8 (d + 1)), .i n, .i i, .s t0, .s t1, .s t2, .s t3, .i (j + 1), .ss tl, .ss tb, .l l], []))
  (fun l' => some (.normal, [.i v, .i e, .i d, .i n, .i i, .s t0, .s t1, .s t2, .s t3, .i (j + 1), .ss tl, .ss tb, .l l'], [])) (some (.ret, [.i 0, .i 92, .i d, .i n, .i i, .ss tl, .ss tb, .l l], [])) (some (.normal, [.i v, .i e, .i d, .i n, .i i, .s t0, .s t1, .s t2, .s t3, .i (j + 1), .ss tl, .ss tb, .l l], [])) else none
theorem r2_round (R : RN) (nn : Bool) (rd : Option Nat) (v e d n i : Int) (t0 t1 t2 t3 : ByteArray) (tl tb : List ByteArray) (l : List Int) : ∀ j : Nat, j < 4 → roundT Tryd.prog (orcQ R plainL) noLoops 100 2 rd 29 r2Lp (r2T nn) (r1T nn) [.i v, .i e, .i d, .i n, .i i, .s t0, .s t1, .s t2, .s t3, .i (j : Int), .ss tl, .ss tb, .l l] =
    r2E R (c4 t0 t1 t2 t3 j) v e d n i (j : Int) t0 t1 t2 t3 tl tb l
  | 0, _ => by cases nn <;> kernel_rfl
  | 1, _ => by cases nn <;> kernel_rfl
  | 2, _ => by cases nn <;> kernel_rfl
  | 3, _ => by cases nn <;> kernel_rfl
  | _ + 4, h => by omega
theorem r2_end (R : RN) (nn : Bool) (rd : Option Nat) (v e d n i : Int) (t0 t1 t2 t3 : ByteArray) (tl tb : List ByteArray) (l : List Int) : roundT Tryd.prog (orcQ R plainL) noLoops 100 2 rd 29 r2Lp (r2T nn) (r1T nn) [.i v, .i e, .i d, .i n, .i i, .s t0, .s t1, .s t2, .s t3, .i ((4 : Nat) : Int), .ss tl, .ss tb, .l l] =
    some (.exit 2, [.i v, .i e, .i d, .i n, .i i, .ss tl, .ss tb, .l l], []) := by cases nn <;> kernel_rfl
theorem r3_round (R : RN) (nn : Bool) (rd : Option Nat) (v e d n i : Int) (tl tb ag : List ByteArray) (l : List Int) : roundT Tryd.prog (orcQ R plainL) noLoops 100 2 rd 29 r3Lp (r3T nn) (r3X nn) [.i v, .i e, .i d, .i n, .i i, .ss tl, .ss tb, .l l, .ss ag] =
    bif decide (i < n) then atS ag i (fun x => atS tb i (fun y => bif !strEq x y then some (.ret, [.i 0, .i 92, .i d, .ss tl, .ss tb, .l l], []) else some (.normal, [.i v, .i e, .i d, .i n, .i (wr .i64 (i + 1)), .ss tl, .ss tb, .l l, .ss ag], []))) else some (.exit 5, [.i v, .i e, .i d, .ss tl, .ss tb, .l l], []) := by cases nn <;> kernel_rfl
def cellR (t : ByteArray) (d : Int) (l : List Int) : Bool × Int × List Int := bif strEq t dashS && decide (d < 3) then (true, d + 1, l) else bif decide (rdE t = 0) then (true, d, l ++ [rdC t]) else bif !strEq t askS && !strEq t noS then (false, d, l) else (true, d, l)
def cellsR : List ByteArray → Int → List Int → Bool × Int × List Int
  | [], d, l => (true, d, l)
  | t :: r, d, l => bif (cellR t d l).1 then cellsR r (cellR t d l).2.1 (cellR t d l).2.2 else (false, d, l)
def r2Fin (v e n i : Int) (tl tb : List ByteArray) (q : Bool × Int × List Int) : XE × List PV := if q.1 = true then (.exit 2, [.i v, .i e, .i q.2.1, .i n, .i i, .ss tl, .ss tb, .l q.2.2]) else (.ret, [.i 0, .i 92, .i q.2.1, .i n, .i i, .ss tl, .ss tb, .l q.2.2])
theorem cellR_len (t : ByteArray) (d : Int) (l : List Int) : (cellR t d l).2.2.length ≤ l.length + 1 := by
  unfold cellR
  cases (strEq t dashS && decide (d < 3)) <;> cases decide (rdE t = 0) <;> cases (!strEq t askS && !strEq t noS) <;> simp
theorem cellR_d (t : ByteArray) {d : Int} (h : 0 ≤ d) (l : List Int) : 0 ≤ (cellR t d l).2.1 := by
  unfold cellR
  cases (strEq t dashS && decide (d < 3)) <;> cases decide (rdE t = 0) <;> cases (!strEq t askS && !strEq t noS) <;> simp <;> omega
theorem r2E_is {t : ByteArray} {v e d n i j : Int} {t0 t1 t2 t3 : ByteArray} {tb : List ByteArray} {l : List Int} (hd : 0 ≤ d) (hl : l.length ≤ 1000000) : r2E rN t v e d n i j t0 t1 t2 t3 textsL tb l =
    bif (cellR t d l).1 then some (.normal, [.i v, .i e, .i (cellR t d l).2.1, .i n, .i i, .s t0, .s t1, .s t2, .s t3, .i (j + 1), .ss textsL, .ss tb, .l (cellR t d l).2.2], []) else some (.ret, [.i 0, .i 92, .i d, .i n, .i i, .ss textsL, .ss tb, .l l], []) := by
  unfold r2E rcG rcT cellR
  rw [pB_iff.2 rfl, show rN.RE t = rdE t from rfl, show rN.RC t = rdC t from rfl, decide_eq_true (show (l ++ [rdC t]).length * 2 ≤ 70368744177664 by rw [List.length_append, List.length_singleton]; omega)]
  by_cases h3 : d < 3
  · rw [decide_eq_true h3, wr_u8_id (n := d + 1) (by omega)]
    cases strEq t dashS <;> cases decide (rdE t = 0) <;> cases strEq t askS <;> cases strEq t noS <;> rfl
  · rw [decide_eq_false h3]
    cases strEq t dashS <;> cases decide (rdE t = 0) <;> cases strEq t askS <;> cases strEq t noS <;> rfl
theorem c4_drop (t0 t1 t2 t3 : ByteArray) : ∀ j : Nat, j < 4 → [t0, t1, t2, t3].drop j = c4 t0 t1 t2 t3 j :: [t0, t1, t2, t3].drop (j + 1)
  | 0, _ => rfl
  | 1, _ => rfl
  | 2, _ => rfl
  | 3, _ => rfl
  | _ + 4, h => by omega
theorem r2_loop (nn : Bool) (rd : Option Nat) (v e n i : Int) (t0 t1 t2 t3 : ByteArray) (tb : List ByteArray) : ∀ x : Nat × Int × List Int, (x.1 ≤ 4 ∧ 0 ≤ x.2.1 ∧ x.2.2.length ≤ 999000 + x.1) →
    SimC Tryd.prog 2 rd (.loop r2Lp) ((r2T nn).at [.i v, .i e, .i x.2.1, .i n, .i i, .s t0, .s t1, .s t2, .s t3, .i (x.1 : Int), .ss textsL, .ss tb, .l x.2.2]) (r2Fin v e n i textsL tb (cellsR ([t0, t1, t2, t3].drop x.1) x.2.1 x.2.2)).1 ((r1T nn).at (r2Fin v e n i textsL tb (cellsR ([t0, t1, t2, t3].drop x.1) x.2.1 x.2.2)).2) := by
  refine loop_of_rounds (C := orcQ rN plainL) (L := noLoops) (N := 100) (me := 29) (T := r2T nn) (T' := r1T nn) (orcQ_ok plainL_ok) mixed noLoops_ok (by cases nn <;> kernel_rfl) (by cases nn <;> kernel_rfl) (X := Nat × Int × List Int)
    (fun x => [.i v, .i e, .i x.2.1, .i n, .i i, .s t0, .s t1, .s t2, .s t3, .i (x.1 : Int), .ss textsL, .ss tb, .l x.2.2]) (fun x => x.1 ≤ 4 ∧ 0 ≤ x.2.1 ∧ x.2.2.length ≤ 999000 + x.1) (fun x => 4 - x.1) (fun x => r2Fin v e n i textsL tb (cellsR ([t0, t1, t2, t3].drop x.1) x.2.1 x.2.2)) ?_
  rintro ⟨j, d, l⟩ ⟨hj, hd, hl⟩
  dsimp only at hj hd hl ⊢
  rcases Nat.lt_or_ge j 4 with hlt | hge
  · have h := r2_round rN nn rd v e d n i t0 t1 t2 t3 textsL tb l j hlt
    rw [r2E_is hd (by omega)] at h
    rw [c4_drop t0 t1 t2 t3 j hlt]
    simp only [cellsR]
    have hln := cellR_len (c4 t0 t1 t2 t3 j) d l
    have hd' := cellR_d (c4 t0 t1 t2 t3 j) hd l
    generalize cellR (c4 t0 t1 t2 t3 j) d l = q at *
    obtain ⟨b, d', l'⟩ := q
    cases b with
    | true => exact ⟨_, _, _, h, codes0, .inl ⟨rfl, (j + 1, d', l'), by simp only [Int.natCast_add, Int.cast_ofNat_Int], ⟨by simp only; omega, hd', by simp only at hln ⊢; omega⟩, by simp only; omega, rfl⟩⟩
    | false => exact ⟨_, _, _, h, codes0, .inr ⟨by simp, rfl⟩⟩
  · obtain rfl : j = 4 := by omega
    have h := r2_end rN nn rd v e d n i t0 t1 t2 t3 textsL tb l
    exact ⟨_, _, _, h, codes0, .inr ⟨by simp, rfl⟩⟩
def r3Fin (v e d : Int) (tl tb : List ByteArray) (l : List Int) (q : Bool) : XE × List PV := if q = true then (.exit 5, [.i v, .i e, .i d, .ss tl, .ss tb, .l l]) else (.ret, [.i 0, .i 92, .i d, .ss tl, .ss tb, .l l])
theorem r3_loop (nn : Bool) (rd : Option Nat) (v e d : Int) (tl tb ag : List ByteArray) (l : List Int) (hl : ag.length = tb.length) (hs : ag.length ≤ 1000000) : ∀ i : Nat, i ≤ ag.length →
    SimC Tryd.prog 2 rd (.loop r3Lp) ((r3T nn).at [.i v, .i e, .i d, .i (ag.length : Int), .i (i : Int), .ss tl, .ss tb, .l l, .ss ag]) (r3Fin v e d tl tb l (eqS (ag.drop i) (tb.drop i))).1 ((r3X nn).at (r3Fin v e d tl tb l (eqS (ag.drop i) (tb.drop i))).2) := by
  refine loop_of_rounds (C := orcQ rN plainL) (L := noLoops) (N := 100) (me := 29) (T := r3T nn) (T' := r3X nn) (orcQ_ok plainL_ok) mixed noLoops_ok (by cases nn <;> kernel_rfl) (by cases nn <;> kernel_rfl) (X := Nat)
    (fun i => [.i v, .i e, .i d, .i (ag.length : Int), .i (i : Int), .ss tl, .ss tb, .l l, .ss ag]) (fun i => i ≤ ag.length) (fun i => ag.length - i) (fun i => r3Fin v e d tl tb l (eqS (ag.drop i) (tb.drop i))) ?_
  intro i hi
  have h := r3_round rN nn rd v e d (ag.length : Int) (i : Int) tl tb ag l
  rcases Nat.lt_or_ge i ag.length with hlt | hge
  · rw [decide_eq_true (show (i : Int) < (ag.length : Int) by omega), cond_true, atS_at hlt, atS_at (show i < tb.length by omega), wr64 (by omega) (by omega)] at h
    have e : eqS (ag.drop i) (tb.drop i) = (strEq ag[i] tb[i] && eqS (ag.drop (i + 1)) (tb.drop (i + 1))) := by
      rw [List.drop_eq_getElem_cons hlt, List.drop_eq_getElem_cons (show i < tb.length by omega)]; rfl
    rw [e]
    cases hb : strEq ag[i] tb[i] with
    | true =>
      rw [hb] at h
      exact ⟨_, _, _, h, codes0, .inl ⟨rfl, i + 1, rfl, by omega, by omega, by rw [Bool.true_and]⟩⟩
    | false =>
      rw [hb] at h
      exact ⟨_, _, _, h, codes0, .inr ⟨by simp, rfl⟩⟩
  · rw [decide_eq_false (show ¬ (i : Int) < (ag.length : Int) by omega), cond_false] at h
    refine ⟨_, _, _, h, codes0, .inr ⟨by simp, ?_⟩⟩
    rw [List.drop_eq_nil_of_le (by omega), List.drop_eq_nil_of_le (by omega)]; rfl
end Go.Proofs.YtnhilofmafjdpaaDoor

/- Chapter 9: auction.Read: the loop over the lines. -/
namespace Go.Proofs.YtnhilofmafjdpaaDoor
open Go Go.Eng
structure QN where
  QC : Int → List Int → Bool
  QK : ByteArray → ByteArray → ByteArray → ByteArray → Int → List Int → Bool
  QD : ByteArray → ByteArray → ByteArray → ByteArray → Int → List Int → Int
  QL : ByteArray → ByteArray → ByteArray → ByteArray → Int → List Int → List Int
def qnC (d : Int) (l : List Int) : Bool := decide (0 ≤ d ∧ l.length ≤ 999000)
def qN : QN := ⟨qnC, fun a b c d k l => (cellsR [a, b, c, d] k l).1, fun a b c d k l => (cellsR [a, b, c, d] k l).2.1, fun a b c d k l => (cellsR [a, b, c, d] k l).2.2⟩
noncomputable def r2Tree (Q : QN) (nn : Bool) : List PV → Fin
  | [.i v, .i e, .i d, .i n, .i i, .s t0, .s t1, .s t2, .s t3, .i j, .ss tl, .ss tb, .l l] => .br (decide (j = 0) && (pB (tl = textsL) && Q.QC d l)) (.br (Q.QK t0 t1 t2 t3 d l) (.leaf (.exit 2) ((r1T nn).at [.i v, .i e, .i (Q.QD t0 t1 t2 t3 d l), .i n, .i i, .ss tl, .ss tb, .l (Q.QL t0 t1 t2 t3 d l)]))
      (.leaf .ret ((r1T nn).at [.i 0, .i 92, .i (Q.QD t0 t1 t2 t3 d l), .i n, .i i, .ss tl, .ss tb, .l (Q.QL t0 t1 t2 t3 d l)]))) .no
  | _ => .no
noncomputable def q2L (Q : QN) (nn : Bool) : Loops := sums (fun n => match n with | 12 => some (lsumF 2 (r2T nn) r2Lp (r2Tree Q nn)) | _ => none)
theorem q2L_ok (nn : Bool) : loopsOk Tryd.prog (q2L qN nn) := by
  intro n g hg
  simp only [q2L, sums] at hg
  split at hg
  · cases hg
    refine lsumF_ok (by cases nn <;> kernel_rfl) (fun rd ps e1 st1 hq => ?_)
    unfold r2Tree at hq
    split at hq
    · rename_i v e d n i t0 t1 t2 t3 j tl tb l
      simp only [Fin.pick] at hq
      cases hc : (decide (j = 0) && (pB (tl = textsL) && qN.QC d l)) with
      | false => rw [hc] at hq; cases hq
      | true =>
        rw [hc, cond_true] at hq
        simp only [Bool.and_eq_true, decide_eq_true_eq, pB_iff, show qN.QC d l = qnC d l from rfl, qnC] at hc
        obtain ⟨rfl, rfl, h1, h2⟩ := hc
        have h := r2_loop nn rd v e n i t0 t1 t2 t3 tb (0, d, l) ⟨by omega, h1, by simp only; omega⟩
        rw [show ([t0, t1, t2, t3].drop 0) = [t0, t1, t2, t3] from rfl] at h
        simp only [qN] at hq
        dsimp only at h
        unfold r2Fin at h
        generalize cellsR [t0, t1, t2, t3] d l = q at hq h
        obtain ⟨b, d', l'⟩ := q
        cases b with
        | true => cases hq; exact h
        | false => cases hq; exact h
    · cases hq
  · cases hg
noncomputable def r1G (R : RN) (Q : QN) (v e d n i : Int) (tl tb : List ByteArray) (l : List Int) (s : ByteArray) : RT :=
  bif !R.CK s then some (.ret, [.i 0, .i 92, .i d, .ss tl, .ss tb, .l l], []) else cond (codesB [(r2Lp, r2Lp)]) (bif decide ((0 : Int) = 0) && (pB (tl = textsL) && Q.QC d l) then bif Q.QK (R.CV s 0) (R.CV s 1) (R.CV s 2) (R.CV s 3) d l then
    some (.normal, [.i v, .i e, .i (Q.QD (R.CV s 0) (R.CV s 1) (R.CV s 2) (R.CV s 3) d l), .i n, .i (wr .i64 (i + 1)), .ss tl, .ss tb, .l (Q.QL (R.CV s 0) (R.CV s 1) (R.CV s 2) (R.CV s 3) d l)], [])
    else some (.ret, [.i 0, .i 92, .i (Q.QD (R.CV s 0) (R.CV s 1) (R.CV s 2) (R.CV s 3) d l), .ss tl, .ss tb, .l (Q.QL (R.CV s 0) (R.CV s 1) (R.CV s 2) (R.CV s 3) d l)], []) else none) none
theorem r1_round (R : RN) (Q : QN) (nn : Bool) (rd : Option Nat) (v e d n i : Int) (tl tb : List ByteArray) (l : List Int) : roundT Tryd.prog (orcQ R plainL) (q2L Q nn) 100 2 rd 29 r1Lp (r1T nn) (r1X nn) [.i v, .i e, .i d, .i n, .i i, .ss tl, .ss tb, .l l] =
    bif decide (i < n) then atS tb i (fun s => r1G R Q v e d n i tl tb l s) else some (.exit 0, [.i v, .i e, .i d, .ss tl, .ss tb, .l l], []) := by cases nn <;> kernel_rfl
end Go.Proofs.YtnhilofmafjdpaaDoor
