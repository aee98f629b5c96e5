/- Chapter 6: the law DealWrong answers true (printed by WrQ2.py). -/
import Derived.Test.YtpalajfcffdhoaaWrT
namespace Go.Proofs.Ytpalajfcffdhoaa
open Go Go.Eng Go.Deal
section
variable {m0 m1 m2 m3 : Nat} (R : RightD m0 m1 m2 m3)
include R
theorem bad_00 {k : Int} (hk : 0 ≤ k) : Bad (bd0 k 0 (DQ.n m0 m1 m2 m3)) := by
  obtain ⟨q, q1, q2, q3⟩ := wC_n hk
  have p64 : 2 ^ q < 18446744073709551616 := Nat.lt_of_lt_of_le (Nat.pow_lt_pow_right (by decide) q2) (show 2 ^ 64 ≤ 18446744073709551616 by decide)
  have e : bd0 k 0 (DQ.n m0 m1 m2 m3) = DQ.n (m0 ||| 2 ^ q) m1 m2 m3 := by
    show (⟨orI (m0 : Int) (wC k), (m1 : Int), (m2 : Int), (m3 : Int)⟩ : DQ) = _
    rw [q3, orI_n (lt64 R.la) p64]; rfl
  rw [e]
  exact Bad.of (or64 (lt64 R.la) p64) (lt64 R.lb) (lt64 R.lc) (lt64 R.ld) (fun p => high q1 p.la)

theorem bad_01 (k : Int) : Bad (bd0 k 1 (DQ.n m0 m1 m2 m3)) := by
  have e : bd0 k 1 (DQ.n m0 m1 m2 m3) = DQ.n (m0 ||| m1) 0 m2 m3 := by
    show (⟨orI (m0 : Int) (m1 : Int), 0, (m2 : Int), (m3 : Int)⟩ : DQ) = _
    rw [orI_n (lt64 R.la) (lt64 R.lb)]; rfl
  rw [e]
  exact Bad.of (or64 (lt64 R.la) (lt64 R.lb)) (by decide) (lt64 R.lc) (lt64 R.ld) (fun p => two13 R.ab R.ea R.eb p.ca)

theorem bad_02 (k : Int) : Bad (bd0 k 2 (DQ.n m0 m1 m2 m3)) := by
  obtain ⟨c, c1, c2, c3, t, c4⟩ := low_card (pos13 R.ea) R.la
  obtain ⟨x, x1, x2⟩ := drop_n (pos13 R.eb) R.lb
  have e : bd0 k 2 (DQ.n m0 m1 m2 m3) = DQ.n m0 (x ||| c) m2 m3 := by
    show (⟨(m0 : Int), orI (dropI (m1 : Int)) (lowI (m0 : Int)), (m2 : Int), (m3 : Int)⟩ : DQ) = _
    rw [c1, x1, orI_n (lt64 x2) (lt64 c3)]; rfl
  rw [e]
  exact Bad.of (lt64 R.la) (or64 (lt64 x2) (lt64 c3)) (lt64 R.lc) (lt64 R.ld) (fun p => twice c2 c4 p.ab)

theorem bad_10 {k : Int} (hk : 0 ≤ k) : Bad (bd1 k 0 (DQ.n m0 m1 m2 m3)) := by
  obtain ⟨q, q1, q2, q3⟩ := wC_n hk
  have p64 : 2 ^ q < 18446744073709551616 := Nat.lt_of_lt_of_le (Nat.pow_lt_pow_right (by decide) q2) (show 2 ^ 64 ≤ 18446744073709551616 by decide)
  have e : bd1 k 0 (DQ.n m0 m1 m2 m3) = DQ.n m0 (m1 ||| 2 ^ q) m2 m3 := by
    show (⟨(m0 : Int), orI (m1 : Int) (wC k), (m2 : Int), (m3 : Int)⟩ : DQ) = _
    rw [q3, orI_n (lt64 R.lb) p64]; rfl
  rw [e]
  exact Bad.of (lt64 R.la) (or64 (lt64 R.lb) p64) (lt64 R.lc) (lt64 R.ld) (fun p => high q1 p.lb)

theorem bad_11 (k : Int) : Bad (bd1 k 1 (DQ.n m0 m1 m2 m3)) := by
  have e : bd1 k 1 (DQ.n m0 m1 m2 m3) = DQ.n m0 (m1 ||| m2) 0 m3 := by
    show (⟨(m0 : Int), orI (m1 : Int) (m2 : Int), 0, (m3 : Int)⟩ : DQ) = _
    rw [orI_n (lt64 R.lb) (lt64 R.lc)]; rfl
  rw [e]
  exact Bad.of (lt64 R.la) (or64 (lt64 R.lb) (lt64 R.lc)) (by decide) (lt64 R.ld) (fun p => two13 R.bc R.eb R.ec p.cb)

theorem bad_12 (k : Int) : Bad (bd1 k 2 (DQ.n m0 m1 m2 m3)) := by
  obtain ⟨c, c1, c2, c3, t, c4⟩ := low_card (pos13 R.eb) R.lb
  obtain ⟨x, x1, x2⟩ := drop_n (pos13 R.ec) R.lc
  have e : bd1 k 2 (DQ.n m0 m1 m2 m3) = DQ.n m0 m1 (x ||| c) m3 := by
    show (⟨(m0 : Int), (m1 : Int), orI (dropI (m2 : Int)) (lowI (m1 : Int)), (m3 : Int)⟩ : DQ) = _
    rw [c1, x1, orI_n (lt64 x2) (lt64 c3)]; rfl
  rw [e]
  exact Bad.of (lt64 R.la) (lt64 R.lb) (or64 (lt64 x2) (lt64 c3)) (lt64 R.ld) (fun p => twice c2 c4 p.bc)

theorem bad_20 {k : Int} (hk : 0 ≤ k) : Bad (bd2 k 0 (DQ.n m0 m1 m2 m3)) := by
  obtain ⟨q, q1, q2, q3⟩ := wC_n hk
  have p64 : 2 ^ q < 18446744073709551616 := Nat.lt_of_lt_of_le (Nat.pow_lt_pow_right (by decide) q2) (show 2 ^ 64 ≤ 18446744073709551616 by decide)
  have e : bd2 k 0 (DQ.n m0 m1 m2 m3) = DQ.n m0 m1 (m2 ||| 2 ^ q) m3 := by
    show (⟨(m0 : Int), (m1 : Int), orI (m2 : Int) (wC k), (m3 : Int)⟩ : DQ) = _
    rw [q3, orI_n (lt64 R.lc) p64]; rfl
  rw [e]
  exact Bad.of (lt64 R.la) (lt64 R.lb) (or64 (lt64 R.lc) p64) (lt64 R.ld) (fun p => high q1 p.lc)

theorem bad_21 (k : Int) : Bad (bd2 k 1 (DQ.n m0 m1 m2 m3)) := by
  have e : bd2 k 1 (DQ.n m0 m1 m2 m3) = DQ.n m0 m1 (m2 ||| m3) 0 := by
    show (⟨(m0 : Int), (m1 : Int), orI (m2 : Int) (m3 : Int), 0⟩ : DQ) = _
    rw [orI_n (lt64 R.lc) (lt64 R.ld)]; rfl
  rw [e]
  exact Bad.of (lt64 R.la) (lt64 R.lb) (or64 (lt64 R.lc) (lt64 R.ld)) (by decide) (fun p => two13 R.cd' R.ec R.ed p.cc)

theorem bad_22 (k : Int) : Bad (bd2 k 2 (DQ.n m0 m1 m2 m3)) := by
  obtain ⟨c, c1, c2, c3, t, c4⟩ := low_card (pos13 R.ec) R.lc
  obtain ⟨x, x1, x2⟩ := drop_n (pos13 R.ed) R.ld
  have e : bd2 k 2 (DQ.n m0 m1 m2 m3) = DQ.n m0 m1 m2 (x ||| c) := by
    show (⟨(m0 : Int), (m1 : Int), (m2 : Int), orI (dropI (m3 : Int)) (lowI (m2 : Int))⟩ : DQ) = _
    rw [c1, x1, orI_n (lt64 x2) (lt64 c3)]; rfl
  rw [e]
  exact Bad.of (lt64 R.la) (lt64 R.lb) (lt64 R.lc) (or64 (lt64 x2) (lt64 c3)) (fun p => twice c2 c4 p.cd')

theorem bad_30 {k : Int} (hk : 0 ≤ k) : Bad (bd3 k 0 (DQ.n m0 m1 m2 m3)) := by
  obtain ⟨q, q1, q2, q3⟩ := wC_n hk
  have p64 : 2 ^ q < 18446744073709551616 := Nat.lt_of_lt_of_le (Nat.pow_lt_pow_right (by decide) q2) (show 2 ^ 64 ≤ 18446744073709551616 by decide)
  have e : bd3 k 0 (DQ.n m0 m1 m2 m3) = DQ.n m0 m1 m2 (m3 ||| 2 ^ q) := by
    show (⟨(m0 : Int), (m1 : Int), (m2 : Int), orI (m3 : Int) (wC k)⟩ : DQ) = _
    rw [q3, orI_n (lt64 R.ld) p64]; rfl
  rw [e]
  exact Bad.of (lt64 R.la) (lt64 R.lb) (lt64 R.lc) (or64 (lt64 R.ld) p64) (fun p => high q1 p.ld)

theorem bad_31 (k : Int) : Bad (bd3 k 1 (DQ.n m0 m1 m2 m3)) := by
  have e : bd3 k 1 (DQ.n m0 m1 m2 m3) = DQ.n 0 m1 m2 (m3 ||| m0) := by
    show (⟨0, (m1 : Int), (m2 : Int), orI (m3 : Int) (m0 : Int)⟩ : DQ) = _
    rw [orI_n (lt64 R.ld) (lt64 R.la)]; rfl
  rw [e]
  exact Bad.of (by decide) (lt64 R.lb) (lt64 R.lc) (or64 (lt64 R.ld) (lt64 R.la)) (fun p => two13 R.ad.symm R.ed R.ea p.cd)

theorem bad_32 (k : Int) : Bad (bd3 k 2 (DQ.n m0 m1 m2 m3)) := by
  obtain ⟨c, c1, c2, c3, t, c4⟩ := low_card (pos13 R.ed) R.ld
  obtain ⟨x, x1, x2⟩ := drop_n (pos13 R.ea) R.la
  have e : bd3 k 2 (DQ.n m0 m1 m2 m3) = DQ.n (x ||| c) m1 m2 m3 := by
    show (⟨orI (dropI (m0 : Int)) (lowI (m3 : Int)), (m1 : Int), (m2 : Int), (m3 : Int)⟩ : DQ) = _
    rw [c1, x1, orI_n (lt64 x2) (lt64 c3)]; rfl
  rw [e]
  exact Bad.of (or64 (lt64 x2) (lt64 c3)) (lt64 R.lb) (lt64 R.lc) (lt64 R.ld) (fun p => twice c2 c4 p.ad.symm)

theorem bad_all {k i h : Int} (hk : 0 ≤ k) (hi : i = 0 ∨ i = 1 ∨ i = 2 ∨ i = 3) (hh : h = 0 ∨ h = 1 ∨ h = 2) : Bad (bd6 k i h (DQ.n m0 m1 m2 m3)) := by
  rcases hi with rfl | rfl | rfl | rfl
  · rcases hh with rfl | rfl | rfl
    · exact bad_00 R hk
    · exact bad_01 R k
    · exact bad_02 R k
  · rcases hh with rfl | rfl | rfl
    · exact bad_10 R hk
    · exact bad_11 R k
    · exact bad_12 R k
  · rcases hh with rfl | rfl | rfl
    · exact bad_20 R hk
    · exact bad_21 R k
    · exact bad_22 R k
  · rcases hh with rfl | rfl | rfl
    · exact bad_30 R hk
    · exact bad_31 R k
    · exact bad_32 R k
end
theorem bad_le {B : DQ} (h : Bad B) : d7.U B = true ∧ d7.Le B = 60 ∧ d7.Pb B = false ∧ d7.Rg B = false := by
  refine ⟨(U_is B).trans h.u, ?_, h.p, ?_⟩
  · show leI B.a B.b B.c B.d = 60
    unfold leI; rw [h.p]; rfl
  · show rgB B.a B.b B.c B.d = false
    unfold rgB; rw [h.p]; rfl
theorem bad_ce {B : DQ} (h : Bad B) (n : Int) : d7.Ce B n = 60 := by
  show cpE B.a B.b B.c B.d n = 60
  unfold cpE; rw [h.p]; rfl
theorem bad_ie {B : DQ} (h : Bad B) (M : DQ) : d7.Ie B M = 60 ∧ d7.Ie M B = 60 := by
  constructor
  · show ixE B.a B.b B.c B.d M.a M.b M.c M.d = 60
    unfold ixE; rw [h.p]; rfl
  · show ixE M.a M.b M.c M.d B.a B.b B.c B.d = 60
    unfold ixE rgB; rw [h.p, Bool.false_and, Bool.and_false]; rfl
theorem re_right {B : DQ} (h : Bad B) : d8.Re 1 B = 60 := by
  show rnE 1 B.a B.b B.c B.d = 60
  unfold rnE; rw [show N3.rightB 1 = true by decide, h.p]; rfl
theorem re_wrong {s : Int} (hs : N3.rightB s = false) (B : DQ) : d8.Re s B = 2 := by
  show rnE s B.a B.b B.c B.d = 2
  unfold rnE; rw [hs]; rfl
theorem min_wrong (n : Int) : N3.rightB (foldI minI n [0]) = false := by
  simp only [foldI, minI]
  unfold N3.rightB
  by_cases h : (0 : Int) < n
  · rw [decide_eq_true h]; rfl
  · rw [decide_eq_false h, cond_false, decide_eq_false (show ¬ 1 ≤ n by omega)]; rfl
theorem max_wrong (n : Int) : N3.rightB (foldI maxI n [2147483647]) = false := by
  simp only [foldI, maxI]
  unfold N3.rightB
  by_cases h : (2147483647 : Int) > n
  · rw [decide_eq_true h]; rfl
  · rw [decide_eq_false h, cond_false, decide_eq_false (show ¬ n ≤ 2147483646 by omega), Bool.and_false]
theorem other_none {a b c d : Nat} (R : RightD a b c d) : d7.Ie (DQ.n a b c d) (DQ.n d a b c) = 6 := by
  have R' : RightD d a b c := ⟨R.toPartD.rot, R.ed, R.ea, R.eb, R.ec⟩
  have hx : ixC (a : Int) (b : Int) (c : Int) (d : Int) (d : Int) (a : Int) (b : Int) (c : Int) = false := Bool.eq_false_iff.2 (fun h => by
    have hs := (ixC_iff.1 h).1
    have : a = 0 := Nat.eq_of_testBit_eq fun i => by
      rw [Nat.zero_testBit]
      cases ha : a.testBit i with
      | false => rfl
      | true => exact (R.ad i ha (hs i ha)).elim
    have := pos13 R.ea
    omega)
  show ixE (a : Int) (b : Int) (c : Int) (d : Int) (d : Int) (a : Int) (b : Int) (c : Int) = 6
  unfold ixE
  rw [parB_iff.2 R.toPartD, rgB_iff.2 R', hx]; rfl
theorem wrong_true (nn : Bool) {ls : List Int} (hv : okV ls) {w : Int} (hw : 0 ≤ w ∧ w < 18446744073709551616) {q k : Int} (hq : 0 ≤ q) (hk : 0 ≤ k ∧ k < 256) (n : Int) :
    topFn Try.prog (orcX d8 (tab8 d8)) noLoops 100 (wrBB cw6 bd6 nn) 7 Try.f7 [.gs 0, .int .u64 w, .int .u8 q, .int .u8 k, .int .i64 n] [.rs nn 1 (.ints .u8 ls)] (fun v _ => some v) = some (.bool true) := by
  refine (wrong_eval d8 cw6 bd6 nn ls w q k n).trans ?_
  obtain ⟨p0, p1, p2, p3, hP, PD, _⟩ := torn (ls := ls) hw
  have R := made_right ls
  have hh : q.tmod 3 = 0 ∨ q.tmod 3 = 1 ∨ q.tmod 3 = 2 := by rw [Int.tmod_eq_emod_of_nonneg hq]; omega
  have hi : (wr .i64 k).tmod 4 = 0 ∨ (wr .i64 k).tmod 4 = 1 ∨ (wr .i64 k).tmod 4 = 2 ∨ (wr .i64 k).tmod 4 = 3 := by rw [wr64 (by omega) (by omega), Int.tmod_eq_emod_of_nonneg hk.1]; omega
  have BA := bad_all R hk.1 hi hh
  rw [← M_n] at BA
  have hC : cw6 k ((wr .i64 k).tmod 4) (q.tmod 3) (d7.M ls) (d7.M ls) = true := by
    unfold cw6; rw [pB_iff]; exact ⟨rfl, hk.1, hi⟩
  generalize hB : bd6 k ((wr .i64 k).tmod 4) (q.tmod 3) (d7.M ls) = B at BA
  obtain ⟨u, le, pb, rg⟩ := bad_le BA
  have uM : d7.U (d7.M ls) = true := in4_n R.toPartD
  have R' : RightD (hnd ls 3) (hnd ls 0) (hnd ls 1) (hnd ls 2) := ⟨R.toPartD.rot, R.ed, R.ea, R.eb, R.ec⟩
  have hO : d7.T 1 (d7.M ls) = DQ.n (hnd ls 3) (hnd ls 0) (hnd ls 1) (hnd ls 2) := rfl
  have uO : d7.U (d7.T 1 (d7.M ls)) = true := by rw [hO]; exact in4_n R'.toPartD
  have iO : d7.Ie (d7.M ls) (d7.T 1 (d7.M ls)) = 6 := other_none R
  have i0 : n6.inn 0 0 0 0 = true := smalli (x := 0) (by decide)
  have okl : d7.ok ls = true := pB_iff.2 hv
  rw [d8d, okl, cond_true, cond_true, codesD, cond_true, hC, cond_true, hB, hP]
  unfold wr1
  rw [d8d, d7n, u, le, pb, rg, uM, i0, in4_n PD, bad_ce BA, (bad_ie BA _).1, (bad_ie BA _).2, re_right BA]
  unfold wr2
  rw [d8d, u, uM, uO, in4_n PD, iO, re_wrong (min_wrong n), re_wrong (max_wrong n)]
  rfl
end Go.Proofs.Ytpalajfcffdhoaa
