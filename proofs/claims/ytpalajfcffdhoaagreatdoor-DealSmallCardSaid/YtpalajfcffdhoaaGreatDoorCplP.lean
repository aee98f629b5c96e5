/- Chapter 6: Left, Right, Ways, Complete, Index: their contracts. -/
import Derived.Test.YtpalajfcffdhoaaGreatDoorPar
namespace Go.Proofs.YtpalajfcffdhoaaGreatDoor
open Go Go.Eng Go.Deal
theorem u4_n {a b c d : Nat} (ha : a < 18446744073709551616) (hb : b < 18446744073709551616) (hc : c < 18446744073709551616) (hd : d < 18446744073709551616) : d6.u4 (a : Int) (b : Int) (c : Int) (d : Int) = true := by
  unfold D6.u4
  rw [show d6.n = n6 from rfl, u_n ha, u_n hb, u_n hc, u_n hd]; rfl
theorem orI_n {a b : Nat} (ha : a < 18446744073709551616) (hb : b < 18446744073709551616) : orI (a : Int) (b : Int) = ((a ||| b : Nat) : Int) := or_nat ha hb
theorem anI_n {a b : Nat} (ha : a < 18446744073709551616) (hb : b < 18446744073709551616) : anI (a : Int) (b : Int) = ((nd a b : Nat) : Int) := andNot_nat ha hb
theorem or64 {a b : Nat} (ha : a < 18446744073709551616) (hb : b < 18446744073709551616) : a ||| b < 18446744073709551616 := Nat.or_lt_two_pow (n := 64) ha hb
theorem unI_n {a b c d : Nat} (ha : a < 18446744073709551616) (hb : b < 18446744073709551616) (hc : c < 18446744073709551616) (hd : d < 18446744073709551616) : unI (a : Int) (b : Int) (c : Int) (d : Int) = ((un a b c d : Nat) : Int) ∧ un a b c d < 18446744073709551616 := by
  unfold unI un
  rw [orI_n ha hb, orI_n (or64 ha hb) hc, orI_n (or64 (or64 ha hb) hc) hd]
  exact ⟨rfl, or64 (or64 (or64 ha hb) hc) hd⟩
theorem lfF_n {a b c d : Nat} (ha : a < 18446744073709551616) (hb : b < 18446744073709551616) (hc : c < 18446744073709551616) (hd : d < 18446744073709551616) : lfF (a : Int) (b : Int) (c : Int) (d : Int) = ((lf a b c d : Nat) : Int) := by
  obtain ⟨e, l⟩ := unI_n ha hb hc hd
  unfold lfF
  rw [e]
  exact anI_n (a := 4503599627370495) (by decide) l
theorem lt64 {a : Nat} (h : a < 2 ^ 52) : a < 18446744073709551616 := Nat.lt_trans h (by decide)
theorem cpS_ok {h l z w : Nat} (hh : h < 2 ^ 52) (hc : cnt h 52 ≤ 13) (hl : l < 2 ^ 52) (hw : 0 < w) (hz : z < 340282366920938463463374607431768211456) (hr : z / w < bc (cnt l 52) (lk h)) (K : Int → Int → Int → Option V) :
    cpS d6 (w : Int) true (h : Int) (l : Int) (z : Int) true K = K ((h ||| pick l 52 (lk h) (z / w) : Nat) : Int) ((nd l (pick l 52 (lk h) (z / w)) : Nat) : Int) ((z % w : Nat) : Int) := by
  have hb := bc_52 (n := cnt l 52) (k := lk h) (cnt_le _ _)
  have hp := pick_lt l 52 (lk h) (z / w)
  obtain ⟨nl, _⟩ := lk_n hh hc
  have hq : z / w ≤ z := Nat.div_le_self z w
  unfold cpS
  rw [show d6.n = n6 from rfl, u_n (lt64 hh), quoq hw, remq hw, nl]
  generalize z / w = r at *
  rw [qq (by omega), ii]
  have hok : d6.sbk (l : Int) ((lk h : Nat) : Int) (r : Int) = true := by
    rw [show d6.sbk = sbOk from rfl]
    unfold sbOk
    rw [decide_eq_true_eq, Int.toNat_natCast, Int.toNat_natCast]
    exact ⟨by omega, by omega, by omega, by omega, by omega⟩
  have hsb : d6.sb (l : Int) ((lk h : Nat) : Int) (r : Int) = ((pick l 52 (lk h) r : Nat) : Int) := by
    rw [show d6.sb = g6 from rfl]
    unfold g6
    rw [Int.toNat_natCast, Int.toNat_natCast, Int.toNat_natCast]
  rw [hok, hsb, orI_n (lt64 hh) (lt64 hp), anI_n (lt64 hl) (lt64 hp)]
  rfl
theorem ixS_ok {h p l s w : Nat} (hh : h < 2 ^ 52) (hp : p < 2 ^ 52) (hl : l < 2 ^ 52) (hs : Sub (nd h p) l) (hr : s + rank l (nd h p) 52 * w < 340282366920938463463374607431768211456) (K : Int → Int → Option V) :
    ixS d6 (w : Int) true (h : Int) (p : Int) (l : Int) (s : Int) true K = K ((nd l (nd h p) : Nat) : Int) ((s + rank l (nd h p) 52 * w : Nat) : Int) := by
  have hb := bc_52 (n := cnt l 52) (k := cnt (nd h p) 52) (cnt_le _ _)
  have hk := rank_lt hs 52
  have hn := sub_lt (nd_sub h p) hh
  unfold ixS
  rw [show d6.n = n6 from rfl, anI_n (lt64 hh) (lt64 hp), anI_n (lt64 hl) (lt64 hn)]
  have hok : d6.odk (l : Int) ((nd h p : Nat) : Int) = true := by
    rw [show d6.odk = odOk from rfl]
    unfold odOk
    rw [decide_eq_true_eq, Int.toNat_natCast, Int.toNat_natCast, sub_and]
    exact ⟨by omega, by omega, by omega, hs⟩
  have hod : d6.od (l : Int) ((nd h p : Nat) : Int) = ((rank l (nd h p) 52 : Nat) : Int) := by
    rw [show d6.od = og6 from rfl]
    unfold og6
    rw [Int.toNat_natCast, Int.toNat_natCast]
  rw [hok, hod, ii, qq (by omega), mulq (by omega), ii, qq (by omega), addq (by omega)]
  rfl
noncomputable def lfI (a b c d : Int) : Int := bif parB a b c d then ((lf a.toNat b.toNat c.toNat d.toNat : Nat) : Int) else 0
noncomputable def leI (a b c d : Int) : Int := bif parB a b c d then 0 else 60
noncomputable def wyI (a b c d : Int) : Int := bif parB a b c d then o0 a b c d else 0
noncomputable def rgB (a b c d : Int) : Bool := parB a b c d && decide (un a.toNat b.toNat c.toNat d.toNat = AL)
theorem left_p {a b c d : Int} (h : in4 a b c d = true) : FnPure Tryz.prog 12 [q4 a b c d] (.tuple [.int .u64 (lfI a b c d), .int .i64 (leI a b c d)]) := by
  obtain ⟨a, b, c, d, rfl, rfl, rfl, rfl, ha, hb, hc, hd⟩ := in4_nat h
  refine fnPure_of_eval (N := 100) (orcE_ok plainL_ok) mixed Tryz.func12 (by kernel_rfl) noLoops_ok ?_ rfl rfl
  refine (left_eval d6 _ _ _ _).trans ?_
  rw [u4_n ha hb hc hd, lfF_n ha hb hc hd, cond_true, show d6.pb = parB from rfl]
  unfold lfI leI
  rw [Int.toNat_natCast, Int.toNat_natCast, Int.toNat_natCast, Int.toNat_natCast]
  cases parB (a : Int) (b : Int) (c : Int) (d : Int) <;> rfl
theorem right_p {a b c d : Int} (h : in4 a b c d = true) : FnPure Tryz.prog 18 [q4 a b c d] (.bool (rgB a b c d)) := by
  obtain ⟨a, b, c, d, rfl, rfl, rfl, rfl, ha, hb, hc, hd⟩ := in4_nat h
  refine fnPure_of_eval (N := 100) (orcE_ok plainL_ok) mixed Tryz.func18 (by kernel_rfl) noLoops_ok ?_ rfl rfl
  refine (right_eval d6 _ _ _ _).trans ?_
  rw [u4_n ha hb hc hd, (unI_n ha hb hc hd).1, cond_true, show d6.pb = parB from rfl]
  unfold rgB
  rw [Int.toNat_natCast, Int.toNat_natCast, Int.toNat_natCast, Int.toNat_natCast]
  have e : decide (((un a b c d : Nat) : Int) = 4503599627370495) = decide (un a b c d = AL) := by
    by_cases q : un a b c d = AL
    · rw [decide_eq_true q, q]; rfl
    · rw [decide_eq_false q, decide_eq_false (fun h => q (by unfold AL; omega))]
  rw [e]
  cases parB (a : Int) (b : Int) (c : Int) (d : Int) <;> rfl
theorem ways_p {a b c d : Int} (h : in4 a b c d = true) : FnPure Tryz.prog 14 [q4 a b c d] (.tuple [n6.nW (wyI a b c d), .int .i64 (leI a b c d)]) := by
  obtain ⟨a, b, c, d, rfl, rfl, rfl, rfl, ha, hb, hc, hd⟩ := in4_nat h
  refine fnPure_of_eval (N := 100) (orcE_ok plainL_ok) mixed Tryz.func14 (by kernel_rfl) noLoops_ok ?_ rfl rfl
  refine (ways_eval d6 _ _ _ _).trans ?_
  rw [u4_n ha hb hc hd, cond_true, show d6.pb = parB from rfl]
  unfold wyI leI
  cases parB (a : Int) (b : Int) (c : Int) (d : Int) <;> rfl
def cpG (a b c d n : Nat) : Nat × Nat × Nat × Nat := match comp (lks a b c d) (lf a b c d) n with
  | [g0, g1, g2, g3] => (a ||| g0, b ||| g1, c ||| g2, d ||| g3)
  | _ => (0, 0, 0, 0)
noncomputable def cpB (a b c d n : Int) : Bool := parB a b c d && decide (n < o0 a b c d)
noncomputable def cp0 (a b c d n : Int) : Int := bif cpB a b c d n then (((cpG a.toNat b.toNat c.toNat d.toNat n.toNat).1 : Nat) : Int) else 0
noncomputable def cp1 (a b c d n : Int) : Int := bif cpB a b c d n then (((cpG a.toNat b.toNat c.toNat d.toNat n.toNat).2.1 : Nat) : Int) else 0
noncomputable def cp2 (a b c d n : Int) : Int := bif cpB a b c d n then (((cpG a.toNat b.toNat c.toNat d.toNat n.toNat).2.2.1 : Nat) : Int) else 0
noncomputable def cp3 (a b c d n : Int) : Int := bif cpB a b c d n then (((cpG a.toNat b.toNat c.toNat d.toNat n.toNat).2.2.2 : Nat) : Int) else 0
noncomputable def cpE (a b c d n : Int) : Int := bif parB a b c d then bif decide (n < o0 a b c d) then 0 else 6 else 60
theorem nat_n {e f g h : Int} (hi : N2.inN e f g h = true) : ∃ n : Nat, N2.nval e f g h = n ∧ n < 340282366920938463463374607431768211456 := by
  have hr := N2.nval_range hi
  exact ⟨(N2.nval e f g h).toNat, by omega, by omega⟩
theorem cpl_p {a b c d e f g h : Int} (h4 : in4 a b c d = true) (hi : N2.inN e f g h = true) : FnPure Tryz.prog 34 [q4 a b c d, .agg [.int .u32 e, .int .u32 f, .int .u32 g, .int .u32 h]]
    (.tuple [q4 (cp0 a b c d (N2.nval e f g h)) (cp1 a b c d (N2.nval e f g h)) (cp2 a b c d (N2.nval e f g h)) (cp3 a b c d (N2.nval e f g h)), .int .i64 (cpE a b c d (N2.nval e f g h))]) := by
  obtain ⟨a, b, c, d, rfl, rfl, rfl, rfl, ha, hb, hc, hd⟩ := in4_nat h4
  refine fnPure_of_eval (N := 100) (orcE_ok plainL_ok) mixed Tryz.func34 (by kernel_rfl) noLoops_ok ?_ rfl rfl
  obtain ⟨n, hn, hn2⟩ := nat_n hi
  refine (cpl_eval d6 _ _ _ _ _ _ _ _).trans ?_
  rw [u4_n ha hb hc hd, cond_true, show d6.pb = parB from rfl, show d6.n = n6 from rfl, show n6.inn e f g h = true from hi, show n6.z e f g h = N2.nval e f g h from rfl, hn, ii, ii, ii]
  unfold cp0 cp1 cp2 cp3 cpE cpB
  cases hp : parB (a : Int) (b : Int) (c : Int) (d : Int) with
  | false => rfl
  | true =>
    have P := parB_iff.1 hp
    have ho0 : o0 (a : Int) (b : Int) (c : Int) (d : Int) = ((wy (lks a b c d) : Nat) : Int) := rfl
    have ho1 : o1 (a : Int) (b : Int) (c : Int) (d : Int) = ((wy [lk b, lk c, lk d] : Nat) : Int) := rfl
    have ho2 : o2 (a : Int) (b : Int) (c : Int) (d : Int) = ((wy [lk c, lk d] : Nat) : Int) := rfl
    obtain ⟨f0, f1, f2, f3⟩ := wy_four (a := lk a) (b := lk b) (c := lk c) (d := lk d) (by unfold lk; omega) (by unfold lk; omega) (by unfold lk; omega) (by unfold lk; omega)
    have f0' : wy (lks a b c d) ≤ 2 ^ 117 := f0
    rw [show d6.o0 = o0 from rfl, show d6.o1 = o1 from rfl, show d6.o2 = o2 from rfl, ho0, ho1, ho2, qq (by omega), qq (by omega), qq (by omega), show n6.z 1 0 0 0 = ((1 : Nat) : Int) from smallz 1, show n6.inn 1 0 0 0 = true from smalli (x := 1) (by decide)]
    have hcm : decide (0 ≤ n6.cmp (n : Int) ((wy (lks a b c d) : Nat) : Int)) = !decide (n < wy (lks a b c d)) := by
      rw [← cmpq]
      by_cases q : n6.cmp (n : Int) ((wy (lks a b c d) : Nat) : Int) < 0
      · rw [decide_eq_true q, decide_eq_false (by omega)]; rfl
      · rw [decide_eq_false q, decide_eq_true (by omega)]; rfl
    rw [hcm]
    by_cases hlt : n < wy (lks a b c d)
    · rw [decide_eq_true hlt, decide_eq_true (show (n : Int) < ((wy (lks a b c d) : Nat) : Int) by omega)]
      have hL := P.lf_cnt
      have hlt' : n < bc (lk a + sm [lk b, lk c, lk d]) (lk a) * wy [lk b, lk c, lk d] := hlt
      have hL0 : cnt (lf a b c d) 52 = lk a + sm [lk b, lk c, lk d] := hL
      have q0 : n / wy [lk b, lk c, lk d] < bc (cnt (lf a b c d) 52) (lk a) := by rw [hL0]; exact Nat.div_lt_of_lt_mul (by rw [Nat.mul_comm]; exact hlt')
      have L0 : lf a b c d < 2 ^ 52 := P.lf_lt
      have C0 := cnt_nd (pick_sub (lf a b c d) 52 (lk a) (n / wy [lk b, lk c, lk d])) 52
      rw [pick_cnt _ q0] at C0
      have L1 := sub_lt (nd_sub (lf a b c d) (pick (lf a b c d) 52 (lk a) (n / wy [lk b, lk c, lk d]))) L0
      have n1 : n % wy [lk b, lk c, lk d] < wy [lk b, lk c, lk d] := Nat.mod_lt _ (wy_pos _)
      rw [Bool.not_true, cond_false, Bool.and_self, cond_true, cond_true, cond_false]
      rw [lfF_n ha hb hc hd, cpS_ok P.la P.ca L0 (wy_pos _) hn2 q0]
      generalize hg0 : pick (lf a b c d) 52 (lk a) (n / wy [lk b, lk c, lk d]) = g0 at *
      generalize hm0 : nd (lf a b c d) g0 = l1 at *
      generalize hz1 : n % wy [lk b, lk c, lk d] = z1 at *
      have hc1 : cnt l1 52 = lk b + sm [lk c, lk d] := by simp only [sm] at hL0 ⊢; omega
      have q1 : z1 / wy [lk c, lk d] < bc (cnt l1 52) (lk b) := by rw [hc1]; exact Nat.div_lt_of_lt_mul (by rw [Nat.mul_comm]; exact n1)
      have C1 := cnt_nd (pick_sub l1 52 (lk b) (z1 / wy [lk c, lk d])) 52
      rw [pick_cnt _ q1] at C1
      have L2 := sub_lt (nd_sub l1 (pick l1 52 (lk b) (z1 / wy [lk c, lk d]))) L1
      have n2 : z1 % wy [lk c, lk d] < wy [lk c, lk d] := Nat.mod_lt _ (wy_pos _)
      rw [ii, qq (by omega), cpS_ok P.lb P.cb L1 (wy_pos _) (by omega) q1]
      generalize hg1 : pick l1 52 (lk b) (z1 / wy [lk c, lk d]) = g1 at *
      generalize hm1 : nd l1 g1 = l2 at *
      generalize hz2 : z1 % wy [lk c, lk d] = z2 at *
      have hc2 : cnt l2 52 = lk c + sm [lk d] := by simp only [sm] at hc1 ⊢; omega
      have q2 : z2 / 1 < bc (cnt l2 52) (lk c) := by
        rw [hc2, ← f3]; exact Nat.div_lt_of_lt_mul (by rw [Nat.mul_comm]; exact n2)
      have C2 := cnt_nd (pick_sub l2 52 (lk c) (z2 / 1)) 52
      rw [pick_cnt _ q2] at C2
      have L3 := sub_lt (nd_sub l2 (pick l2 52 (lk c) (z2 / 1))) L2
      rw [ii, qq (by omega), cpS_ok P.lc P.cc L2 (by decide) (by omega) q2]
      generalize hg2 : pick l2 52 (lk c) (z2 / 1) = g2 at *
      generalize hm2 : nd l2 g2 = l3 at *
      generalize hz3 : z2 % 1 = z3 at *
      have hz30 : z3 = 0 := by omega
      have hc3 : cnt l3 52 = lk d := by simp only [sm] at hc2; omega
      have q3 : z3 / 1 < bc (cnt l3 52) (lk d) := by rw [hc3, bc_self, hz30]; decide
      rw [ii, qq (by omega), cpS_ok P.ld P.cd L3 (by decide) (by omega) q3]
      have hG : cpG a b c d n = (a ||| g0, b ||| g1, c ||| g2, d ||| pick l3 52 (lk d) (z3 / 1)) := by
        unfold cpG lks
        simp only [comp]
        rw [hg0, hm0, hz1, hg1, hm1, hz2, f3, hg2, hm2, hz3]
        rfl
      rw [Int.toNat_natCast, Int.toNat_natCast, Int.toNat_natCast, Int.toNat_natCast, Int.toNat_natCast, hG]
      rfl
    · rw [decide_eq_false hlt, decide_eq_false (show ¬ (n : Int) < ((wy (lks a b c d) : Nat) : Int) by omega)]
      rfl
end Go.Proofs.YtpalajfcffdhoaaGreatDoor
