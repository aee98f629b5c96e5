/- Chapter 6: the law DealBack answers true. -/
import Derived.Test.YtpalajfcffdhoaaBaT
import Derived.Test.YtpalajfcffdhoaaBaT
namespace Go.Proofs.Ytpalajfcffdhoaa
open Go Go.Eng Go.Deal
noncomputable def cb6 (P X Y : DQ) (o s : Int) : Bool := pB (o = 0 ∧ s = 3 ∧ anI P.a X.a = 0 ∧ anI P.b X.b = 0 ∧ anI P.c X.c = 0 ∧ anI P.d X.d = 0) || (pB (Y.a = Y.a) && false)
def or6 (_ X Y : DQ) : Int := ord3 X.a X.b X.c Y.a Y.b Y.c
/-- The order so far. -/
def oS (x y o : Int) : Int := bif decide (x = y) then o else bif decide (x < y) then -1 else 1
theorem bsS_is (ls : List Int) (a b P W X Y : DQ) (p x y o : Int) (K : Int → RT) (h : anI p x = 0) : bsS ls a b P W X Y p x y o K = K (oS x y o) := by
  unfold bsS oS
  rw [decide_eq_true h, Bool.not_true, cond_false]
  cases decide (x = y) with
  | true => rfl
  | false => rw [Bool.not_false, cond_true, cond_false]; cases decide (x < y) <;> rfl
inductive BS where
  | s3 | s2 | s1 | s0 | sm
def BS.i : BS → Int
  | .s3 => 3 | .s2 => 2 | .s1 => 1 | .s0 => 0 | .sm => -1
def BS.o (X Y : DQ) : BS → Int
  | .s3 => 0 | .s2 => 0 | .s1 => oS X.c Y.c 0 | .s0 => oS X.b Y.b (oS X.c Y.c 0) | .sm => oS X.a Y.a (oS X.b Y.b (oS X.c Y.c 0))
def BS.m : BS → Nat
  | .s3 => 4 | .s2 => 3 | .s1 => 2 | .s0 => 1 | .sm => 0
theorem oS_ord (X Y : DQ) : oS X.a Y.a (oS X.b Y.b (oS X.c Y.c 0)) = ord3 X.a X.b X.c Y.a Y.b Y.c := rfl
theorem ba_loop (nn : Bool) (rd : Option Nat) (ls : List Int) (a b P W X Y : DQ) (h0 : anI P.a X.a = 0) (h1 : anI P.b X.b = 0) (h2 : anI P.c X.c = 0) (h3 : anI P.d X.d = 0) : ∀ x : BS, True →
    SimC Try.prog 1 rd (.loop baLp) ((baT nn).at (.i (x.o X Y) :: .i x.i :: baPs ls a b P W X Y)) (.exit 0) ((baX nn).at (.i (ord3 X.a X.b X.c Y.a Y.b Y.c) :: baPs ls a b P W X Y)) := by
  refine loop_of_rounds (C := orcZ7) (L := noLoops) (N := 100) (me := 6) (T := baT nn) (T' := baX nn) (orcN_ok emptyTab_ok plainL_ok) mixed noLoops_ok (by cases nn <;> kernel_rfl) (by cases nn <;> kernel_rfl) (X := BS)
    (fun x => .i (x.o X Y) :: .i x.i :: baPs ls a b P W X Y) (fun _ => True) BS.m (fun _ => (.exit 0, .i (ord3 X.a X.b X.c Y.a Y.b Y.c) :: baPs ls a b P W X Y)) ?_
  intro x _
  cases x with
  | s3 =>
    have h := ba_r3 nn rd ls a b P W X Y 0
    rw [decide_eq_true h3, Bool.not_true, cond_false] at h
    exact ⟨_, _, _, h, codesNil, .inl ⟨rfl, .s2, rfl, trivial, by decide, rfl⟩⟩
  | s2 =>
    have h := ba_r2 nn rd ls a b P W X Y 0
    rw [bsS_is _ _ _ _ _ _ _ _ _ _ _ _ h2] at h
    exact ⟨_, _, _, h, codesNil, .inl ⟨rfl, .s1, rfl, trivial, by decide, rfl⟩⟩
  | s1 =>
    have h := ba_r1 nn rd ls a b P W X Y (oS X.c Y.c 0)
    rw [bsS_is _ _ _ _ _ _ _ _ _ _ _ _ h1] at h
    exact ⟨_, _, _, h, codesNil, .inl ⟨rfl, .s0, rfl, trivial, by decide, rfl⟩⟩
  | s0 =>
    have h := ba_r0 nn rd ls a b P W X Y (oS X.b Y.b (oS X.c Y.c 0))
    rw [bsS_is _ _ _ _ _ _ _ _ _ _ _ _ h0] at h
    exact ⟨_, _, _, h, codesNil, .inl ⟨rfl, .sm, rfl, trivial, by decide, rfl⟩⟩
  | sm =>
    have h := ba_rm nn rd ls a b P W X Y (oS X.a Y.a (oS X.b Y.b (oS X.c Y.c 0)))
    exact ⟨_, _, _, h, codesNil, .inr ⟨(fun h => by cases h), rfl⟩⟩
theorem baLL_ok (nn : Bool) : loopsOk Try.prog (baLL cb6 or6 nn) := by
  intro n g hg
  simp only [baLL, sums] at hg
  split at hg
  · cases hg
    refine lsumF_ok (by cases nn <;> kernel_rfl) (fun rd ps e1 s1 h => ?_)
    unfold baTr at h
    split at h
    · rename_i o s ls a0 a1 a2 a3 b0 b1 b2 b3 p0 p1 p2 p3 w0 w1 w2 w3 x0 x1 x2 x3 r
      split at h
      · rename_i y0 y1 y2 y3
        simp only [Fin.pick] at h
        cases hc : cb6 ⟨p0, p1, p2, p3⟩ ⟨x0, x1, x2, x3⟩ ⟨y0, y1, y2, y3⟩ o s with
        | false => rw [hc] at h; cases h
        | true =>
          rw [hc, cond_true] at h
          unfold cb6 at hc
          rw [Bool.and_false, Bool.or_false, pB_iff] at hc
          obtain ⟨rfl, rfl, q0, q1, q2, q3⟩ := hc
          have hl := ba_loop nn rd ls ⟨a0, a1, a2, a3⟩ ⟨b0, b1, b2, b3⟩ ⟨p0, p1, p2, p3⟩ ⟨w0, w1, w2, w3⟩ ⟨x0, x1, x2, x3⟩ ⟨y0, y1, y2, y3⟩ q0 q1 q2 q3 .s3 trivial
          cases h
          exact hl
      · cases h
    · cases h
  · cases hg
/-! ### the truth -/
theorem anI_sub {p x : Nat} (hp : p < 2 ^ 52) (hx : x < 2 ^ 52) (h : Sub p x) : anI (p : Int) (x : Int) = 0 := by
  rw [anI_n (lt64 hp) (lt64 hx), nd_zero.2 h]; rfl
theorem sub_or (a b : Nat) : Sub a (a ||| b) := Deal.sub_or a b
theorem M_n (ls : List Int) : d7.M ls = DQ.n (hnd ls 0) (hnd ls 1) (hnd ls 2) (hnd ls 3) := rfl
theorem ixI_n {a b c d x y z w : Nat} (h : PartD a b c d) (r : RightD x y z w) (s : Sub a x ∧ Sub b y ∧ Sub c z ∧ Sub d w) :
    d7.Ix (DQ.n a b c d) (DQ.n x y z w) = ((ixN a b c d x y z w : Nat) : Int) ∧ d7.Ie (DQ.n a b c d) (DQ.n x y z w) = 0 := by
  constructor
  · show ixI (a : Int) (b : Int) (c : Int) (d : Int) (x : Int) (y : Int) (z : Int) (w : Int) = _
    unfold ixI
    rw [parB_iff.2 h, rgB_iff.2 r, ixC_iff.2 s]; rfl
  · show ixE (a : Int) (b : Int) (c : Int) (d : Int) (x : Int) (y : Int) (z : Int) (w : Int) = _
    unfold ixE
    rw [parB_iff.2 h, rgB_iff.2 r, ixC_iff.2 s]; rfl
theorem cpI_n {a b c d n x y z w : Nat} (h : PartD a b c d) (hn : n < wy (lks a b c d)) (e : cpG a b c d n = (x, y, z, w)) :
    d7.C (DQ.n a b c d) (n : Int) = DQ.n x y z w ∧ d7.Ce (DQ.n a b c d) (n : Int) = 0 := by
  have hB : cpB (a : Int) (b : Int) (c : Int) (d : Int) (n : Int) = true := by
    unfold cpB
    rw [parB_iff.2 h, show o0 (a : Int) (b : Int) (c : Int) (d : Int) = ((wy (lks a b c d) : Nat) : Int) from rfl, decide_eq_true (by omega)]; rfl
  constructor
  · show (⟨cp0 (a : Int) b c d n, cp1 (a : Int) b c d n, cp2 (a : Int) b c d n, cp3 (a : Int) b c d n⟩ : DQ) = _
    unfold cp0 cp1 cp2 cp3
    rw [hB, cond_true, cond_true, cond_true, cond_true, Int.toNat_natCast, Int.toNat_natCast, Int.toNat_natCast, Int.toNat_natCast, Int.toNat_natCast, e]
    rfl
  · show cpE (a : Int) b c d n = 0
    unfold cpE
    rw [parB_iff.2 h, show o0 (a : Int) (b : Int) (c : Int) (d : Int) = ((wy (lks a b c d) : Nat) : Int) from rfl, decide_eq_true (by omega)]; rfl
theorem cpW_n {a b c d : Nat} (h : PartD a b c d) : d7.C (DQ.n a b c d) ((wy (lks a b c d) : Nat) : Int) = ⟨0, 0, 0, 0⟩ ∧ d7.Ce (DQ.n a b c d) ((wy (lks a b c d) : Nat) : Int) = 6 := by
  have hB : cpB (a : Int) (b : Int) (c : Int) (d : Int) ((wy (lks a b c d) : Nat) : Int) = false := by
    unfold cpB
    rw [parB_iff.2 h, show o0 (a : Int) (b : Int) (c : Int) (d : Int) = ((wy (lks a b c d) : Nat) : Int) from rfl, decide_eq_false (by omega)]; rfl
  constructor
  · show (⟨cp0 (a : Int) b c d _, cp1 (a : Int) b c d _, cp2 (a : Int) b c d _, cp3 (a : Int) b c d _⟩ : DQ) = _
    unfold cp0 cp1 cp2 cp3
    rw [hB]; rfl
  · show cpE (a : Int) b c d _ = 6
    unfold cpE
    rw [parB_iff.2 h, show o0 (a : Int) (b : Int) (c : Int) (d : Int) = ((wy (lks a b c d) : Nat) : Int) from rfl, decide_eq_false (by omega)]; rfl
theorem d7n : d7.n = n6 := rfl
theorem rg_n {x y z w : Nat} (r : RightD x y z w) : d7.Rg (DQ.n x y z w) = true := rgB_iff.2 r
theorem back_true (nn : Bool) {ls : List Int} (hv : okV ls) {w : Int} (hw : 0 ≤ w ∧ w < 18446744073709551616) {a b c d e f g h : Int} (ha : N2.inN a b c d = true) (hb : N2.inN e f g h = true) :
    evalFn Try.prog (orc7 d7) (baLL cb6 or6 nn) 100 6 Try.f6 [.gs 0, .int .u64 w, .agg [.int .u32 a, .int .u32 b, .int .u32 c, .int .u32 d], .agg [.int .u32 e, .int .u32 f, .int .u32 g, .int .u32 h]] [.rs nn 1 (.ints .u8 ls)] (fun v _ => some v) = some (.bool true) := by
  refine (back_eval d7 cb6 or6 nn ls w a b c d e f g h).trans ?_
  obtain ⟨p0, p1, p2, p3, hP, PD, t0, t1, t2, t3⟩ := torn (ls := ls) hw
  have R := made_right ls
  have S : Sub p0 (hnd ls 0) ∧ Sub p1 (hnd ls 1) ∧ Sub p2 (hnd ls 2) ∧ Sub p3 (hnd ls 3) := by
    subst t0; subst t1; subst t2; subst t3; exact ⟨nd_sub _ _, nd_sub _ _, nd_sub _ _, nd_sub _ _⟩
  obtain ⟨A, hA, hA2⟩ := nat_n ha
  obtain ⟨B, hB, hB2⟩ := nat_n hb
  obtain ⟨I1, I2⟩ := ix_ok PD R S.1 S.2.1 S.2.2.1 S.2.2.2
  obtain ⟨J1, J2⟩ := ixI_n PD R S
  obtain ⟨K1, K2⟩ := cpI_n PD I1 I2
  have hwl := wy_lk p0 p1 p2 p3
  have hwp := wy_pos (lks p0 p1 p2 p3)
  generalize hW : wy (lks p0 p1 p2 p3) = W at *
  have hA3 : A % W < W := Nat.mod_lt _ hwp
  have hB3 : B % W < W := Nat.mod_lt _ hwp
  obtain ⟨g0, g1, g2, g3, _, G, C, I, E⟩ := cp_ok PD (n := A % W) (by rw [hW]; exact hA3)
  obtain ⟨k0, k1, k2, k3, _, G', C', I', E'⟩ := cp_ok PD (n := B % W) (by rw [hW]; exact hB3)
  have RX := PD.comp G C
  have RY := PD.comp G' C'
  obtain ⟨X1, X2⟩ := cpI_n PD (by rw [hW]; exact hA3) E
  obtain ⟨Y1, Y2⟩ := cpI_n PD (by rw [hW]; exact hB3) E'
  obtain ⟨V1, V2⟩ := ixI_n PD RX ⟨sub_or _ _, sub_or _ _, sub_or _ _, sub_or _ _⟩
  have V3 := ix_of PD G
  rw [I] at V3
  rw [V3] at V1
  have hO := ord_is PD (by rw [hW]; exact hA3) (by rw [hW]; exact hB3) E E'
  obtain ⟨Z1, Z2⟩ := cpW_n PD
  rw [hW] at Z1 Z2
  have hWy : d7.Wy (DQ.n p0 p1 p2 p3) = ((W : Nat) : Int) := by rw [wy_n PD, hW]
  have hC : cb6 (DQ.n p0 p1 p2 p3) (DQ.n (p0 ||| g0) (p1 ||| g1) (p2 ||| g2) (p3 ||| g3)) (DQ.n (p0 ||| k0) (p1 ||| k1) (p2 ||| k2) (p3 ||| k3)) 0 3 = true := by
    unfold cb6
    rw [Bool.and_false, Bool.or_false, pB_iff]
    exact ⟨rfl, rfl, anI_sub PD.la RX.la (sub_or _ _), anI_sub PD.lb RX.lb (sub_or _ _), anI_sub PD.lc RX.lc (sub_or _ _), anI_sub PD.ld RX.ld (sub_or _ _)⟩
  have hdE : n6.divE ((W : Nat) : Int) = 0 := by
    rw [show n6.divE = N2.divE from rfl]
    unfold N2.divE
    rw [decide_eq_false (by omega)]; rfl
  have ge : decide (0 ≤ n6.cmp ((ixN p0 p1 p2 p3 (hnd ls 0) (hnd ls 1) (hnd ls 2) (hnd ls 3) : Nat) : Int) ((W : Nat) : Int)) = false := by
    have := cmpq (ixN p0 p1 p2 p3 (hnd ls 0) (hnd ls 1) (hnd ls 2) (hnd ls 3)) W
    rw [decide_eq_true (show ixN p0 p1 p2 p3 (hnd ls 0) (hnd ls 1) (hnd ls 2) (hnd ls 3) < W from I1), decide_eq_true_eq] at this
    exact decide_eq_false (by omega)
  rw [show d7.ok ls = true from pB_iff.2 hv, cond_true, cond_true, hP, M_n, in4_n PD, in4_n R.toPartD, J1, d7n, ii, hWy, Bool.and_self, cond_true, cond_true, cond_true]
  unfold ba1
  rw [d7n, le_n PD, J2, qq (x := W) (by omega), qq (x := ixN p0 p1 p2 p3 (hnd ls 0) (hnd ls 1) (hnd ls 2) (hnd ls 3)) (by omega), K1, K2, eqQ_refl, ii, ii, ge, show n6.inn a b c d = true from ha, show n6.inn e f g h = true from hb, show n6.z a b c d = (A : Int) from hA, show n6.z e f g h = (B : Int) from hB,
    remq hwp, remq hwp, qq (x := A % W) (by omega), qq (x := B % W) (by omega), ii, ii, in4_n PD, X1, Y1]
  unfold ba2
  rw [d7n, in4_n PD, in4_n RX.toPartD, qq (x := W) (by omega), hdE, qq (x := A % W) (by omega), qq (x := B % W) (by omega), X2, Y2, V1, V2, eqW_refl, rg_n RX, hC, codesD]
  unfold baE or6
  rw [d7n, in4_n PD, ii, ii, ii, qq (x := W) (by omega), qq (x := A % W) (by omega), qq (x := B % W) (by omega), Z1, Z2]
  have hO' : ord3 (DQ.n (p0 ||| g0) (p1 ||| g1) (p2 ||| g2) (p3 ||| g3)).a (DQ.n (p0 ||| g0) (p1 ||| g1) (p2 ||| g2) (p3 ||| g3)).b (DQ.n (p0 ||| g0) (p1 ||| g1) (p2 ||| g2) (p3 ||| g3)).c
      (DQ.n (p0 ||| k0) (p1 ||| k1) (p2 ||| k2) (p3 ||| k3)).a (DQ.n (p0 ||| k0) (p1 ||| k1) (p2 ||| k2) (p3 ||| k3)).b (DQ.n (p0 ||| k0) (p1 ||| k1) (p2 ||| k2) (p3 ||| k3)).c = n6.cmp ((A % W : Nat) : Int) ((B % W : Nat) : Int) := hO
  have hcm : decide (n6.cmp ((A % W : Nat) : Int) ((B % W : Nat) : Int) = n6.cmp ((A % W : Nat) : Int) ((B % W : Nat) : Int)) = true := decide_eq_true rfl
  rw [hO', hcm, eqQ_refl]
  rfl
end Go.Proofs.Ytpalajfcffdhoaa
