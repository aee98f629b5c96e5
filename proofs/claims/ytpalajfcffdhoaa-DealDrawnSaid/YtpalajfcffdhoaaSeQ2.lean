/- Texts merged: SeQ2, SFrame. -/
import Derived.Test.YtpalajfcffdhoaaSeQ
import Derived.Test.YtpalajfcffdhoaaEng4
import Derived.Test.YtpalajfcffdhoaaRows
/- Chapter 6: the law DealSeats answers true. -/
namespace Go.Proofs.Ytpalajfcffdhoaa
open Go Go.Eng Go.Deal
noncomputable def cs6 (c s : Int) (P _W S : DQ) : Bool := pB (s = 0 ∧ S = ⟨0, 0, 0, 0⟩ ∧ ∃ a b e d k : Nat, P = DQ.n a b e d ∧ c = (k : Int) ∧ PartD a b e d ∧ (lf a b e d).testBit k = true)
noncomputable def sm6 (_ : Int) (P : DQ) : Int := d7.Wy P
theorem w0_is : DQ.w d7 ((0 : Nat) : Int) = ⟨0, 0, 0, 0⟩ := by
  show (⟨N2.w0 ((0 : Nat) : Int), N2.w1 ((0 : Nat) : Int), N2.w2 ((0 : Nat) : Int), N2.w3 ((0 : Nat) : Int)⟩ : DQ) = _
  rw [w00, w10, w20, w30]
theorem seLL_ok (nn : Bool) : loopsOk Try.prog (seLL d7 cs6 sm6 nn) := by
  intro n g hg
  simp only [seLL, sums] at hg
  split at hg
  · cases hg
    refine lsumF_ok (by cases nn <;> kernel_rfl) (fun rd ps e1 s1 h => ?_)
    unfold seTr at h
    split at h
    · rename_i c s ls p0 p1 p2 p3 w0 w1 w2 w3 s0 s1 s2 s3
      simp only [Fin.pick] at h
      cases hc : cs6 c s ⟨p0, p1, p2, p3⟩ ⟨w0, w1, w2, w3⟩ ⟨s0, s1, s2, s3⟩ with
      | false => rw [hc] at h; cases h
      | true =>
        rw [hc, cond_true] at h
        unfold cs6 at hc
        rw [pB_iff] at hc
        obtain ⟨rfl, hS, a, b, e, d, k, hP, rfl, hp, hl⟩ := hc
        have hL := se_loop nn rd ls ⟨w0, w1, w2, w3⟩ hp hl 0 (by omega)
        have e4 : ((seS a b e d k 4 : Nat) : Int) = sm6 (k : Int) ⟨p0, p1, p2, p3⟩ := by
          unfold sm6
          rw [hP, wy_n hp, ← hp.seats hl]
          rfl
        rw [e4, ← hP] at hL
        have e0 : DQ.w d7 ((seS a b e d k 0 : Nat) : Int) = ⟨s0, s1, s2, s3⟩ := by rw [hS]; exact w0_is
        rw [e0] at hL
        cases h
        exact hL
    · cases h
  · cases hg
theorem tmod52 {c : Int} (h : 0 ≤ c) : ∃ k : Nat, c.tmod 52 = (k : Int) ∧ k < 52 := by
  rw [Int.tmod_eq_emod_of_nonneg h]
  exact ⟨(c % 52).toNat, by omega, by omega⟩
theorem wy_right {a b c d : Nat} (r : RightD a b c d) : wy (lks a b c d) = 1 := by
  unfold lks lk
  rw [r.ea, r.eb, r.ec, r.ed]
  decide
theorem lf_right {a b c d : Nat} (r : RightD a b c d) : lf a b c d = 0 := by
  unfold lf
  rw [r.all, nd_zero]
  exact Sub.refl _
theorem sub_zero {g : Nat} (h : Sub g 0) : g = 0 := Nat.eq_of_testBit_eq fun i => by
  rw [Nat.zero_testBit]
  cases hg : g.testBit i with
  | false => rfl
  | true => have := h i hg; rw [Nat.zero_testBit] at this; cases this
theorem cp_right {a b c d : Nat} (r : RightD a b c d) : cpG a b c d 0 = (a, b, c, d) := by
  obtain ⟨g0, g1, g2, g3, _, G, _, _, E⟩ := cp_ok r.toPartD (n := 0) (by rw [wy_right r]; decide)
  obtain ⟨s0, _, s1, _, s2, _, s3, _, _⟩ := G
  have z : ∀ m, nd 0 m = 0 := fun m => nd_zero.2 (fun i h => by rw [Nat.zero_testBit] at h; cases h)
  rw [lf_right r] at s0 s1 s2 s3
  rw [z] at s1 s2 s3
  rw [z] at s2 s3
  rw [z] at s3
  rw [E, sub_zero s0, sub_zero s1, sub_zero s2, sub_zero s3, Nat.or_zero, Nat.or_zero, Nat.or_zero, Nat.or_zero]
theorem lfI_n {a b c d : Nat} (h : PartD a b c d) : d7.Lf (DQ.n a b c d) = ((lf a b c d : Nat) : Int) := by
  show lfI (a : Int) (b : Int) (c : Int) (d : Int) = _
  unfold lfI
  rw [parB_iff.2 h]; rfl
theorem lf_torn (ls : List Int) (w : Nat) (i : Nat) : (lf (nd (hnd ls 0) w) (nd (hnd ls 1) w) (nd (hnd ls 2) w) (nd (hnd ls 3) w)).testBit i = (decide (i < 52) && w.testBit i) := by
  have R := made_right ls
  have hu := R.all
  have hb : (un (hnd ls 0) (hnd ls 1) (hnd ls 2) (hnd ls 3)).testBit i = decide (i < 52) := by rw [hu, al_bit]
  rw [un_bit] at hb
  unfold lf
  rw [nd_bit, al_bit, un_bit, nd_bit, nd_bit, nd_bit, nd_bit, ← hb]
  cases (hnd ls 0).testBit i <;> cases (hnd ls 1).testBit i <;> cases (hnd ls 2).testBit i <;> cases (hnd ls 3).testBit i <;> cases w.testBit i <;> rfl
theorem seats_true (nn : Bool) {ls : List Int} (hv : okV ls) {w : Int} (hw : 0 ≤ w ∧ w < 18446744073709551616) {c : Int} (hc : 0 ≤ c) :
    evalFn Try.prog (orc7 d7) (seLL d7 cs6 sm6 nn) 100 4 Try.f4 [.gs 0, .int .u64 w, .int .u8 c] [.rs nn 1 (.ints .u8 ls)] (fun v _ => some v) = some (.bool true) := by
  refine (seats_eval d7 cs6 sm6 nn ls w c).trans ?_
  obtain ⟨k, hk, k52⟩ := tmod52 hc
  obtain ⟨v, rfl⟩ : ∃ x : Nat, w = x := ⟨w.toNat, by omega⟩
  have pk : 2 ^ k < 18446744073709551616 := lt64 (Nat.pow_lt_pow_right (by decide) k52)
  have hor : orI (v : Int) (shlI (k : Int)) = ((v ||| 2 ^ k : Nat) : Int) := by rw [shlI_n (by omega)]; exact orI_n (by omega) pk
  have hor64 := or64 (show v < 18446744073709551616 by omega) pk
  obtain ⟨p0, p1, p2, p3, hP, PD, t0, t1, t2, t3⟩ := torn (ls := ls) (w := ((v ||| 2 ^ k : Nat) : Int)) ⟨by omega, by omega⟩
  rw [Int.toNat_natCast] at t0 t1 t2 t3
  have R := made_right ls
  have hl : ∀ i, (lf p0 p1 p2 p3).testBit i = (decide (i < 52) && (v ||| 2 ^ k).testBit i) := fun i => by rw [t0, t1, t2, t3]; exact lf_torn ls _ i
  have hlk : (lf p0 p1 p2 p3).testBit k = true := by rw [hl, decide_eq_true k52, tb_put]; rfl
  have e52 : (2 : Nat) ^ 52 = 4503599627370496 := by decide
  have hlf : lf p0 p1 p2 p3 = v % 4503599627370496 ||| 2 ^ k := Nat.eq_of_testBit_eq fun i => by
    rw [hl, Nat.testBit_or, Nat.testBit_or, Nat.testBit_two_pow, ← e52, Nat.testBit_mod_two_pow]
    by_cases hi : i < 52
    · rw [decide_eq_true hi]; simp
    · rw [decide_eq_false hi, decide_eq_false (show ¬ k = i by omega)]; simp
  have hlfI : orI ((v : Int).tmod 4503599627370496) (shlI (k : Int)) = ((lf p0 p1 p2 p3 : Nat) : Int) := by
    rw [Int.tmod_eq_emod_of_nonneg (by omega), show (v : Int) % 4503599627370496 = ((v % 4503599627370496 : Nat) : Int) by omega, hlf, shlI_n (by omega)]
    exact orI_n (by omega) pk
  have hbit : bitI (((lf p0 p1 p2 p3 : Nat)) : Int) (k : Int) = 1 := by rw [bitI_n (lt64 PD.lf_lt) (by omega), if_pos hlk]
  have hC : cs6 (k : Int) 0 (DQ.n p0 p1 p2 p3) (DQ.w d7 (d7.Wy (DQ.n p0 p1 p2 p3))) ⟨0, 0, 0, 0⟩ = true := by
    unfold cs6
    rw [pB_iff]
    exact ⟨rfl, rfl, p0, p1, p2, p3, k, rfl, rfl, PD, hlk⟩
  have Cz := cpI_n R.toPartD (n := 0) (by rw [wy_right R]; decide) (cp_right R)
  have z0 : n6.z 0 0 0 0 = ((0 : Nat) : Int) := smallz 0
  have i0 : n6.inn 0 0 0 0 = true := smalli (x := 0) (by decide)
  have hone : eqOne d7 (d7.Wy (d7.M ls)) = true := by
    rw [M_n, wy_n R.toPartD, wy_right R]
    unfold eqOne
    rw [d7n, nw0, nw1, nw2, nw3, w01, w11, w21, w31]
    rfl
  rw [hk, decide_eq_false (show ¬ (k : Int) < 0 by omega), cond_false, show d7.ok ls = true from pB_iff.2 hv, cond_true, hor, hP]
  unfold se1
  rw [in4_n PD, le_n PD, lfI_n PD, hbit, hlfI, hC, codesD, cond_true, cond_true, decide_eq_true (show (0 : Int) = 0 from rfl), decide_eq_false (show ¬ (k : Int) < 0 by omega), decide_eq_false (show ¬ (1 : Int) = 0 by decide)]
  have hll : decide (((lf p0 p1 p2 p3 : Nat) : Int) = ((lf p0 p1 p2 p3 : Nat) : Int)) = true := decide_eq_true rfl
  rw [hll]
  unfold se2 sm6
  rw [hone, show d7.ok ls = true from pB_iff.2 hv, eqW_refl, d7n, z0, i0, M_n, in4_n R.toPartD, le_n R.toPartD, Cz.1, Cz.2, eqQ_refl]
  rfl
end Go.Proofs.Ytpalajfcffdhoaa

/- What a row asks behind a call that leaves all that was there as it was: the engine's Frame. -/
