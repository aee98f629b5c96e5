/- Chapter 6: Index: its contract. -/
import Derived.Test.YtpalajfcffdhoaaCplP
namespace Go.Proofs.Ytpalajfcffdhoaa
open Go Go.Eng Go.Deal
theorem nd_zero {a b : Nat} : nd a b = 0 ↔ Sub a b := by
  constructor
  · intro h i hi
    cases hb : b.testBit i with
    | true => rfl
    | false =>
      have : (nd a b).testBit i = true := by rw [nd_bit, hi, hb]; rfl
      rw [h, Nat.zero_testBit] at this; cases this
  · intro h
    refine Nat.eq_of_testBit_eq fun i => ?_
    rw [nd_bit, Nat.zero_testBit]
    cases ha : a.testBit i with
    | false => rfl
    | true => rw [h i ha]; rfl
noncomputable def ixC (a b c d x y z w : Int) : Bool := @decide (Sub a.toNat x.toNat ∧ Sub b.toNat y.toNat ∧ Sub c.toNat z.toNat ∧ Sub d.toNat w.toNat) (Classical.propDecidable _)
theorem ixC_iff {a b c d x y z w : Nat} : ixC a b c d x y z w = true ↔ Sub a x ∧ Sub b y ∧ Sub c z ∧ Sub d w :=
  @decide_eq_true_iff (Sub (a : Int).toNat (x : Int).toNat ∧ Sub (b : Int).toNat (y : Int).toNat ∧ Sub (c : Int).toNat (z : Int).toNat ∧ Sub (d : Int).toNat (w : Int).toNat) (Classical.propDecidable _)
def ixN (a b c d x y z w : Nat) : Nat := idx [nd x a, nd y b, nd z c, nd w d] (lf a b c d)
noncomputable def ixI (a b c d x y z w : Int) : Int := bif parB a b c d && (rgB x y z w && ixC a b c d x y z w) then ((ixN a.toNat b.toNat c.toNat d.toNat x.toNat y.toNat z.toNat w.toNat : Nat) : Int) else 0
noncomputable def ixE (a b c d x y z w : Int) : Int := bif parB a b c d && rgB x y z w then bif ixC a b c d x y z w then 0 else 6 else 60
theorem rgB_iff {a b c d : Nat} : rgB a b c d = true ↔ RightD a b c d := by
  unfold rgB
  rw [Bool.and_eq_true, parB_iff, decide_eq_true_eq, Int.toNat_natCast, Int.toNat_natCast, Int.toNat_natCast, Int.toNat_natCast]
  exact ⟨fun h => h.1.right h.2, fun h => ⟨h.toPartD, h.all⟩⟩
theorem z60 : N2.w0 (0 : Int) = 0 ∧ N2.w1 (0 : Int) = 0 ∧ N2.w2 (0 : Int) = 0 ∧ N2.w3 (0 : Int) = 0 := ⟨w00, w10, w20, w30⟩
theorem assoc4 (p q r s : Nat) : p + (q + (r + (s + 0))) = 0 + p + q + r + s := by omega
theorem idx_p {a b c d x y z w : Int} (h1 : in4 a b c d = true) (h2 : in4 x y z w = true) : FnPure Try.prog 20 [q4 a b c d, q4 x y z w] (.tuple [n6.nW (ixI a b c d x y z w), .int .i64 (ixE a b c d x y z w)]) := by
  obtain ⟨a, b, c, d, rfl, rfl, rfl, rfl, ha, hb, hc, hd⟩ := in4_nat h1
  obtain ⟨x, y, z, w, rfl, rfl, rfl, rfl, hx, hy, hz, hw⟩ := in4_nat h2
  refine fnPure_of_eval (N := 100) (orcE_ok plainL_ok) mixed Try.func20 (by kernel_rfl) noLoops_ok ?_ rfl rfl
  refine (idx_eval d6 _ _ _ _ _ _ _ _).trans ?_
  have hz0 : n6.nW 0 = zeroN := rfl
  rw [u4_n ha hb hc hd, u4_n hx hy hz hw, show d6.pb = parB from rfl, cond_true, cond_true, (unI_n hx hy hz hw).1, anI_n ha hx, anI_n hb hy, anI_n hc hz, anI_n hd hw]
  have e : decide (((un x y z w : Nat) : Int) = 4503599627370495) = decide (un x y z w = AL) := by
    by_cases q : un x y z w = AL
    · rw [decide_eq_true q, q]; rfl
    · rw [decide_eq_false q, decide_eq_false (fun h => q (by unfold AL; omega))]
  rw [e]
  unfold ixI ixE
  have hrg : rgB (x : Int) (y : Int) (z : Int) (w : Int) = (parB (x : Int) (y : Int) (z : Int) (w : Int) && decide (un x y z w = AL)) := rfl
  cases hp : parB (a : Int) (b : Int) (c : Int) (d : Int) with
  | false => rfl
  | true =>
    cases hq : parB (x : Int) (y : Int) (z : Int) (w : Int) with
    | false => rw [hrg, hq]; rfl
    | true =>
      by_cases hu : un x y z w = AL
      · have hr : rgB (x : Int) (y : Int) (z : Int) (w : Int) = true := by rw [hrg, hq, decide_eq_true hu]; rfl
        rw [hr, decide_eq_true hu]
        have zd : ∀ {p q : Nat}, decide (((nd p q : Nat) : Int) = 0) = true ↔ Sub p q := fun {p q} => by
          rw [decide_eq_true_eq, ← nd_zero]; omega
        by_cases g : Sub a x ∧ Sub b y ∧ Sub c z ∧ Sub d w
        · rw [ixC_iff.2 g, zd.2 g.1, zd.2 g.2.1, zd.2 g.2.2.1, zd.2 g.2.2.2]
          have P := parB_iff.1 hp
          have R := rgB_iff.1 hr
          obtain ⟨G, hcs⟩ := RightD.good R g.1 g.2.1 g.2.2.1 g.2.2.2
          have hlt := idx_lt G (by rw [hcs]; exact P.lf_cnt)
          obtain ⟨f0, f1, f2, f3⟩ := wy_four (a := lk a) (b := lk b) (c := lk c) (d := lk d) (by unfold lk; omega) (by unfold lk; omega) (by unfold lk; omega) (by unfold lk; omega)
          have hcs' : cs [nd x a, nd y b, nd z c, nd w d] = [lk a, lk b, lk c, lk d] := hcs
          rw [hcs'] at hlt
          simp only [cs, List.cons.injEq, and_true] at hcs'
          obtain ⟨k0, k1, k2, k3⟩ := hcs'
          obtain ⟨s0, l0, s1, l1, s2, l2, s3, l3, _⟩ := G
          have hN : ixN a b c d x y z w = rank (lf a b c d) (nd x a) 52 * wy [lk b, lk c, lk d] + (rank (nd (lf a b c d) (nd x a)) (nd y b) 52 * wy [lk c, lk d] +
              (rank (nd (nd (lf a b c d) (nd x a)) (nd y b)) (nd z c) 52 * 1 + (rank (nd (nd (nd (lf a b c d) (nd x a)) (nd y b)) (nd z c)) (nd w d) 52 * 1 + 0))) := by
            unfold ixN
            simp only [idx, cs]
            rw [k1, k2, k3, f3]
            rfl
          have hlt' : ixN a b c d x y z w < 2 ^ 117 := Nat.lt_of_lt_of_le hlt f0
          rw [hN] at hlt'
          have hu1 : d6.o1 (a : Int) (b : Int) (c : Int) (d : Int) = ((wy [lk b, lk c, lk d] : Nat) : Int) := rfl
          have hu2 : d6.o2 (a : Int) (b : Int) (c : Int) (d : Int) = ((wy [lk c, lk d] : Nat) : Int) := rfl
          have L0 := P.lf_lt
          have L1 := sub_lt (nd_sub (lf a b c d) (nd x a)) L0
          have L2 := sub_lt (nd_sub (nd (lf a b c d) (nd x a)) (nd y b)) L1
          have L3 := sub_lt (nd_sub (nd (nd (lf a b c d) (nd x a)) (nd y b)) (nd z c)) L2
          rw [Bool.not_true, cond_false, cond_true, cond_false, cond_false, cond_false, cond_false, cond_false, Bool.and_self, cond_true]
          rw [hu1, hu2, show d6.n = n6 from rfl, show n6.z 1 0 0 0 = ((1 : Nat) : Int) from smallz 1, show n6.inn 1 0 0 0 = true from smalli (x := 1) (by decide), show n6.z 0 0 0 0 = ((0 : Nat) : Int) from smallz 0, show n6.inn 0 0 0 0 = true from smalli (x := 0) (by decide),
            ii, ii, qq (by omega), qq (by omega), lfF_n ha hb hc hd]
          rw [ixS_ok R.la P.la L0 s0 (by omega)]
          rw [ii, qq (by omega), ixS_ok R.lb P.lb L1 s1 (by omega)]
          rw [ii, qq (by omega), ixS_ok R.lc P.lc L2 s2 (by omega)]
          rw [ii, qq (by omega), ixS_ok R.ld P.ld L3 s3 (by omega)]
          rw [Int.toNat_natCast, Int.toNat_natCast, Int.toNat_natCast, Int.toNat_natCast, Int.toNat_natCast, Int.toNat_natCast, Int.toNat_natCast, Int.toNat_natCast, hN, assoc4]
          rfl
        · rw [Bool.eq_false_iff.2 (fun h => g (ixC_iff.1 h))]
          by_cases g1 : Sub a x
          · rw [zd.2 g1]
            by_cases g2 : Sub b y
            · rw [zd.2 g2]
              by_cases g3 : Sub c z
              · rw [zd.2 g3, Bool.eq_false_iff.2 (fun h => g ⟨g1, g2, g3, zd.1 h⟩)]; rfl
              · rw [Bool.eq_false_iff.2 (fun h => g3 (zd.1 h))]; rfl
            · rw [Bool.eq_false_iff.2 (fun h => g2 (zd.1 h))]; rfl
          · rw [Bool.eq_false_iff.2 (fun h => g1 (zd.1 h))]; rfl
      · rw [hrg, hq, decide_eq_false hu]; rfl
end Go.Proofs.Ytpalajfcffdhoaa
