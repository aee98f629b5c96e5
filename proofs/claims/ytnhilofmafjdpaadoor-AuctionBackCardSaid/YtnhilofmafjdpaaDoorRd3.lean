/- Chapter 9: auction.Read: the loop over the lines. -/
import Derived.Test.YtnhilofmafjdpaaDoorRd2
namespace Go.Proofs.YtnhilofmafjdpaaDoor
open Go Go.Eng
structure QN where
  QC : Int → List Int → Bool
  QK : ByteArray → ByteArray → ByteArray → ByteArray → Int → List Int → Bool
  QD : ByteArray → ByteArray → ByteArray → ByteArray → Int → List Int → Int
  QL : ByteArray → ByteArray → ByteArray → ByteArray → Int → List Int → List Int
def qnC (d : Int) (l : List Int) : Bool := decide (0 ≤ d ∧ l.length ≤ 999000)
def qN : QN := ⟨qnC, fun a b c d k l => (cellsR [a, b, c, d] k l).1, fun a b c d k l => (cellsR [a, b, c, d] k l).2.1, fun a b c d k l => (cellsR [a, b, c, d] k l).2.2⟩
noncomputable def r2Tree (Q : QN) (nn : Bool) : List PV → Fin
  | [.i v, .i e, .i d, .i n, .i i, .s t0, .s t1, .s t2, .s t3, .i j, .ss tl, .ss tb, .l l] => .br (decide (j = 0) && (pB (tl = textsL) && Q.QC d l)) (.br (Q.QK t0 t1 t2 t3 d l) (.leaf (.exit 2) ((r1T nn).at [.i v, .i e, .i (Q.QD t0 t1 t2 t3 d l), .i n, .i i, .ss tl, .ss tb, .l (Q.QL t0 t1 t2 t3 d l)]))
      (.leaf .ret ((r1T nn).at [.i 0, .i 92, .i (Q.QD t0 t1 t2 t3 d l), .i n, .i i, .ss tl, .ss tb, .l (Q.QL t0 t1 t2 t3 d l)]))) .no
  | _ => .no
noncomputable def q2L (Q : QN) (nn : Bool) : Loops := sums (fun n => match n with | 12 => some (lsumF 2 (r2T nn) r2Lp (r2Tree Q nn)) | _ => none)
theorem q2L_ok (nn : Bool) : loopsOk Tryd.prog (q2L qN nn) := by
  intro n g hg
  simp only [q2L, sums] at hg
  split at hg
  · cases hg
    refine lsumF_ok (by cases nn <;> kernel_rfl) (fun rd ps e1 st1 hq => ?_)
    unfold r2Tree at hq
    split at hq
    · rename_i v e d n i t0 t1 t2 t3 j tl tb l
      simp only [Fin.pick] at hq
      cases hc : (decide (j = 0) && (pB (tl = textsL) && qN.QC d l)) with
      | false => rw [hc] at hq; cases hq
      | true =>
        rw [hc, cond_true] at hq
        simp only [Bool.and_eq_true, decide_eq_true_eq, pB_iff, show qN.QC d l = qnC d l from rfl, qnC] at hc
        obtain ⟨rfl, rfl, h1, h2⟩ := hc
        have h := r2_loop nn rd v e n i t0 t1 t2 t3 tb (0, d, l) ⟨by omega, h1, by simp only; omega⟩
        rw [show ([t0, t1, t2, t3].drop 0) = [t0, t1, t2, t3] from rfl] at h
        simp only [qN] at hq
        dsimp only at h
        unfold r2Fin at h
        generalize cellsR [t0, t1, t2, t3] d l = q at hq h
        obtain ⟨b, d', l'⟩ := q
        cases b with
        | true => cases hq; exact h
        | false => cases hq; exact h
    · cases hq
  · cases hg
noncomputable def r1G (R : RN) (Q : QN) (v e d n i : Int) (tl tb : List ByteArray) (l : List Int) (s : ByteArray) : RT :=
  bif !R.CK s then some (.ret, [.i 0, .i 92, .i d, .ss tl, .ss tb, .l l], []) else cond (codesB [(r2Lp, r2Lp)]) (bif decide ((0 : Int) = 0) && (pB (tl = textsL) && Q.QC d l) then bif Q.QK (R.CV s 0) (R.CV s 1) (R.CV s 2) (R.CV s 3) d l then
    some (.normal, [.i v, .i e, .i (Q.QD (R.CV s 0) (R.CV s 1) (R.CV s 2) (R.CV s 3) d l), .i n, .i (wr .i64 (i + 1)), .ss tl, .ss tb, .l (Q.QL (R.CV s 0) (R.CV s 1) (R.CV s 2) (R.CV s 3) d l)], [])
    else some (.ret, [.i 0, .i 92, .i (Q.QD (R.CV s 0) (R.CV s 1) (R.CV s 2) (R.CV s 3) d l), .ss tl, .ss tb, .l (Q.QL (R.CV s 0) (R.CV s 1) (R.CV s 2) (R.CV s 3) d l)], []) else none) none
theorem r1_round (R : RN) (Q : QN) (nn : Bool) (rd : Option Nat) (v e d n i : Int) (tl tb : List ByteArray) (l : List Int) : roundT Tryd.prog (orcQ R plainL) (q2L Q nn) 100 2 rd 29 r1Lp (r1T nn) (r1X nn) [.i v, .i e, .i d, .i n, .i i, .ss tl, .ss tb, .l l] =
    bif decide (i < n) then atS tb i (fun s => r1G R Q v e d n i tl tb l s) else some (.exit 0, [.i v, .i e, .i d, .ss tl, .ss tb, .l l], []) := by cases nn <;> kernel_rfl
end Go.Proofs.YtnhilofmafjdpaaDoor
