/- Texts merged: NaNat6, NaNat7. -/
import Derived.Test.YtnbfnoomhlamnaaGreatNaNat5
/- Chapter 2: times' contract. -/
namespace Go.Proofs.YtnbfnoomhlamnaaGreat.N2
open Go Go.Eng
theorem tm_nval (a b c d : Int) : nval a b c d = a + 4294967296 * (b + 4294967296 * (c + 4294967296 * d)) := by unfold nval; omega
theorem tm_loop (rd : Option Nat) (f : Bool) {a0 a1 a2 a3 b0 b1 b2 b3 : Int} (hx : inN a0 a1 a2 a3 = true) (hy : inN b0 b1 b2 b3 = true) : ∃ u0 u1 u2 u3 u4 u5 u6 u7 : Int, inN u0 u1 u2 u3 = true ∧ inN u4 u5 u6 u7 = true ∧
    nval u0 u1 u2 u3 + 340282366920938463463374607431768211456 * nval u4 u5 u6 u7 = nval a0 a1 a2 a3 * nval b0 b1 b2 b3 ∧
    SimC Tryz.prog 0 rd (.loop tmLp) (tmT.at [.b f, .i a0, .i a1, .i a2, .i a3, .i 0, .i b0, .i b1, .i b2, .i b3, .i 0, .i 0, .i 0, .i 0, .i 0, .i 0, .i 0, .i 0]) (.exit 0)
      (tmT.at [.b f, .i a0, .i a1, .i a2, .i a3, .i 4, .i b0, .i b1, .i b2, .i b3, .i u0, .i u1, .i u2, .i u3, .i u4, .i u5, .i u6, .i u7]) := by
  rw [inN_iff] at hx hy
  obtain ⟨xa, xb, xc, xd⟩ := hx
  obtain ⟨y0, y1, y2, y3⟩ := hy
  have z : isW 0 := ⟨by decide, by decide⟩
  obtain ⟨s0, s1, s2, s3, s4, sE⟩ := row_eq xa y0 y1 y2 y3 z z z z
  have r0 := tm_round0 rd f a0 a1 a2 a3 b0 b1 b2 b3 0 0 0 0 0 0 0 0
  generalize wr .u32 (rt0 a0 b0 0) = c0 at *
  generalize wr .u32 (rt1 a0 b0 b1 0 0) = c1 at *
  generalize wr .u32 (rt2 a0 b0 b1 b2 0 0 0) = c2 at *
  generalize wr .u32 (rt3 a0 b0 b1 b2 b3 0 0 0 0) = c3 at *
  generalize wr .u32 (hi (rt3 a0 b0 b1 b2 b3 0 0 0 0)) = c4 at *
  obtain ⟨t0, t1, t2, t3, t4, tE⟩ := row_eq xb y0 y1 y2 y3 s1 s2 s3 s4
  have r1 := tm_round1 rd f a0 a1 a2 a3 b0 b1 b2 b3 c0 c1 c2 c3 c4 0 0 0
  generalize wr .u32 (rt0 a1 b0 c1) = d0 at *
  generalize wr .u32 (rt1 a1 b0 b1 c1 c2) = d1 at *
  generalize wr .u32 (rt2 a1 b0 b1 b2 c1 c2 c3) = d2 at *
  generalize wr .u32 (rt3 a1 b0 b1 b2 b3 c1 c2 c3 c4) = d3 at *
  generalize wr .u32 (hi (rt3 a1 b0 b1 b2 b3 c1 c2 c3 c4)) = d4 at *
  obtain ⟨v0, v1, v2, v3, v4, vE⟩ := row_eq xc y0 y1 y2 y3 t1 t2 t3 t4
  have r2 := tm_round2 rd f a0 a1 a2 a3 b0 b1 b2 b3 c0 d0 d1 d2 d3 d4 0 0
  generalize wr .u32 (rt0 a2 b0 d1) = e0 at *
  generalize wr .u32 (rt1 a2 b0 b1 d1 d2) = e1 at *
  generalize wr .u32 (rt2 a2 b0 b1 b2 d1 d2 d3) = e2 at *
  generalize wr .u32 (rt3 a2 b0 b1 b2 b3 d1 d2 d3 d4) = e3 at *
  generalize wr .u32 (hi (rt3 a2 b0 b1 b2 b3 d1 d2 d3 d4)) = e4 at *
  obtain ⟨q0, q1, q2, q3, q4, qE⟩ := row_eq xd y0 y1 y2 y3 v1 v2 v3 v4
  have r3 := tm_round3 rd f a0 a1 a2 a3 b0 b1 b2 b3 c0 d0 e0 e1 e2 e3 e4 0
  generalize wr .u32 (rt0 a3 b0 e1) = g0 at *
  generalize wr .u32 (rt1 a3 b0 b1 e1 e2) = g1 at *
  generalize wr .u32 (rt2 a3 b0 b1 b2 e1 e2 e3) = g2 at *
  generalize wr .u32 (rt3 a3 b0 b1 b2 b3 e1 e2 e3 e4) = g3 at *
  generalize wr .u32 (hi (rt3 a3 b0 b1 b2 b3 e1 e2 e3 e4)) = g4 at *
  have r4 := tm_round4 rd f a0 a1 a2 a3 b0 b1 b2 b3 c0 d0 e0 g0 g1 g2 g3 g4
  refine ⟨c0, d0, e0, g0, g1, g2, g3, g4, inN_iff.2 ⟨s0, t0, v0, q0⟩, inN_iff.2 ⟨q1, q2, q3, q4⟩, ?_, ?_⟩
  · have hm : nval a0 a1 a2 a3 * nval b0 b1 b2 b3 = a0 * nval b0 b1 b2 b3 + 4294967296 * (a1 * nval b0 b1 b2 b3) + 18446744073709551616 * (a2 * nval b0 b1 b2 b3) + 79228162514264337593543950336 * (a3 * nval b0 b1 b2 b3) := by
      rw [show nval a0 a1 a2 a3 = a0 + 4294967296 * a1 + 18446744073709551616 * a2 + 79228162514264337593543950336 * a3 from rfl]
      simp only [Int.add_mul, Int.mul_assoc]
    rw [hm]
    generalize a0 * nval b0 b1 b2 b3 = m0 at *
    generalize a1 * nval b0 b1 b2 b3 = m1 at *
    generalize a2 * nval b0 b1 b2 b3 = m2 at *
    generalize a3 * nval b0 b1 b2 b3 = m3 at *
    unfold nval at *
    omega
  · have hC := orcP_ok tabA_ok plainL_ok
    have g0' := (roundT_sim hC mixed noLoops_ok (by kernel_rfl) (by kernel_rfl) r0 codes0).1 rfl
    have g1' := (roundT_sim hC mixed noLoops_ok (by kernel_rfl) (by kernel_rfl) r1 codes0).1 rfl
    have g2' := (roundT_sim hC mixed noLoops_ok (by kernel_rfl) (by kernel_rfl) r2 codes0).1 rfl
    have g3' := (roundT_sim hC mixed noLoops_ok (by kernel_rfl) (by kernel_rfl) r3 codes0).1 rfl
    have g4' := (roundT_sim hC mixed noLoops_ok (by kernel_rfl) (by kernel_rfl) r4 codes0).2 (by simp)
    exact (g0'.step (g1'.step (g2'.step (g3'.step (g4'.leave (by simp)))))).loop
noncomputable def tmTree : List PV → Fin
  | [.b f, .i a0, .i a1, .i a2, .i a3, .i i, .i b0, .i b1, .i b2, .i b3, .i p0, .i p1, .i p2, .i p3, .i p4, .i p5, .i p6, .i p7] => .br (pB (i = 0 ∧ inN a0 a1 a2 a3 = true ∧ inN b0 b1 b2 b3 = true ∧ p0 = 0 ∧ p1 = 0 ∧ p2 = 0 ∧ p3 = 0 ∧ p4 = 0 ∧ p5 = 0 ∧ p6 = 0 ∧ p7 = 0))
      (.leaf (.exit 0) (tmT.at [.b f, .i a0, .i a1, .i a2, .i a3, .i 4, .i b0, .i b1, .i b2, .i b3, .i (w0 (nval a0 a1 a2 a3 * nval b0 b1 b2 b3)), .i (w1 (nval a0 a1 a2 a3 * nval b0 b1 b2 b3)), .i (w2 (nval a0 a1 a2 a3 * nval b0 b1 b2 b3)), .i (w3 (nval a0 a1 a2 a3 * nval b0 b1 b2 b3)),
        .i (w0 (nval a0 a1 a2 a3 * nval b0 b1 b2 b3 / 340282366920938463463374607431768211456)), .i (w1 (nval a0 a1 a2 a3 * nval b0 b1 b2 b3 / 340282366920938463463374607431768211456)), .i (w2 (nval a0 a1 a2 a3 * nval b0 b1 b2 b3 / 340282366920938463463374607431768211456)), .i (w3 (nval a0 a1 a2 a3 * nval b0 b1 b2 b3 / 340282366920938463463374607431768211456))])) .no
  | _ => .no
noncomputable def tmSum : LoopSum := lsumF 0 tmT tmLp tmTree
theorem tmSum_ok : LoopOk Tryz.prog tmSum := by
  refine lsumF_ok (by kernel_rfl) (fun rd ps e1 st1 h => ?_)
  unfold tmTree at h
  split at h
  · rename_i f a0 a1 a2 a3 i b0 b1 b2 b3 p0 p1 p2 p3 p4 p5 p6 p7
    simp only [Fin.pick] at h
    cases hc : pB (i = 0 ∧ inN a0 a1 a2 a3 = true ∧ inN b0 b1 b2 b3 = true ∧ p0 = 0 ∧ p1 = 0 ∧ p2 = 0 ∧ p3 = 0 ∧ p4 = 0 ∧ p5 = 0 ∧ p6 = 0 ∧ p7 = 0) with
    | false => rw [hc] at h; cases h
    | true =>
      rw [hc, cond_true] at h
      rw [pB_iff] at hc
      obtain ⟨rfl, h1, h2, rfl, rfl, rfl, rfl, rfl, rfl, rfl, rfl⟩ := hc
      cases h
      obtain ⟨u0, u1, u2, u3, u4, u5, u6, u7, k1, k2, k3, k4⟩ := tm_loop rd f h1 h2
      have l1 := nval_range k1
      have d1 : (nval a0 a1 a2 a3 * nval b0 b1 b2 b3) % 340282366920938463463374607431768211456 = nval u0 u1 u2 u3 := by omega
      have d2 : (nval a0 a1 a2 a3 * nval b0 b1 b2 b3) / 340282366920938463463374607431768211456 = nval u4 u5 u6 u7 := by omega
      obtain ⟨m0, m1, m2, m3⟩ := w_mod (nval a0 a1 a2 a3 * nval b0 b1 b2 b3)
      obtain ⟨n0, n1, n2, n3⟩ := w_nval k1
      obtain ⟨o0, o1, o2, o3⟩ := w_nval k2
      rw [d2, o0, o1, o2, o3, ← m0, ← m1, ← m2, ← m3, d1, n0, n1, n2, n3]
      exact k4
  · cases h
noncomputable def tmL : Loops := sums (fun n => match n with | 3 => some tmSum | _ => none)
theorem tmL_ok : loopsOk Tryz.prog tmL := by
  intro n g hg
  simp only [tmL, sums] at hg
  split at hg
  · cases hg; exact tmSum_ok
  · cases hg
def orI (a b c d : Int) : Int := bitsI .or .u32 (bitsI .or .u32 (bitsI .or .u32 a b) c) d
def hiZ (z : Int) : Int := z / 340282366920938463463374607431768211456
theorem tm_eval (a b c d e f g h : Int) : evalFn Tryz.prog (orcP tabA plainL) tmL 200 13 Tryz.f13 [.agg [.int .u32 a, .int .u32 b, .int .u32 c, .int .u32 d], .agg [.int .u32 e, .int .u32 f, .int .u32 g, .int .u32 h]] [] (fun v _ => some v) =
    cond (codesB [(tmLp, tmLp)]) (bif pB ((0 : Int) = 0 ∧ inN a b c d = true ∧ inN e f g h = true ∧ (0 : Int) = 0 ∧ (0 : Int) = 0 ∧ (0 : Int) = 0 ∧ (0 : Int) = 0 ∧ (0 : Int) = 0 ∧ (0 : Int) = 0 ∧ (0 : Int) = 0 ∧ (0 : Int) = 0) then
      some (.tuple [nW (nval a b c d * nval e f g h), .bool (decide (orI (w0 (hiZ (nval a b c d * nval e f g h))) (w1 (hiZ (nval a b c d * nval e f g h))) (w2 (hiZ (nval a b c d * nval e f g h))) (w3 (hiZ (nval a b c d * nval e f g h))) = 0))]) else none) none := by kernel_rfl
theorem or_zero {a b : Int} (ha : isW a) (hb : isW b) : isW (bitsI .or .u32 a b) ∧ (bitsI .or .u32 a b = 0 ↔ a = 0 ∧ b = 0) := by
  obtain ⟨n, rfl⟩ : ∃ n : Nat, a = n := ⟨a.toNat, by omega⟩
  obtain ⟨m, rfl⟩ : ∃ m : Nat, b = m := ⟨b.toNat, by omega⟩
  have h1 : n < 4294967296 := by omega
  have h2 : m < 4294967296 := by omega
  have hl := Nat.or_lt_two_pow (n := 32) h1 h2
  rw [or32 h1 h2]
  refine ⟨⟨by omega, by omega⟩, ?_⟩
  have : n ||| m = 0 ↔ n = 0 ∧ m = 0 := Nat.or_eq_zero_iff
  omega
theorem times_p {a b c d e f g h : Int} (hx : inN a b c d = true) (hy : inN e f g h = true) :
    FnPure Tryz.prog 13 [.agg [.int .u32 a, .int .u32 b, .int .u32 c, .int .u32 d], .agg [.int .u32 e, .int .u32 f, .int .u32 g, .int .u32 h]] (.tuple [nW (nval a b c d * nval e f g h), .bool (decide (nval a b c d * nval e f g h < 340282366920938463463374607431768211456))]) := by
  refine fnPure_of_eval (N := 200) (orcP_ok tabA_ok plainL_ok) mixed Tryz.func13 (by kernel_rfl) tmL_ok ?_ rfl rfl
  have hcd : codesB [(tmLp, tmLp)] = true := by rw [codesB_iff]; intro x hx; simp at hx; rw [hx]
  rw [tm_eval, hcd, pB_iff.2 ⟨rfl, hx, hy, rfl, rfl, rfl, rfl, rfl, rfl, rfl, rfl⟩]
  have r1 := nval_range hx
  have r2 := nval_range hy
  have h0 : 0 ≤ nval a b c d * nval e f g h := Int.mul_nonneg r1.1 r2.1
  have hle : nval a b c d * nval e f g h ≤ 340282366920938463463374607431768211455 * 340282366920938463463374607431768211455 := Int.mul_le_mul (by omega) (by omega) r2.1 (by decide)
  generalize nval a b c d * nval e f g h = T at *
  have hz : 0 ≤ hiZ T ∧ hiZ T < 340282366920938463463374607431768211456 := by unfold hiZ; omega
  have hin := inN_iff.1 (inN_w (hiZ T))
  obtain ⟨o1, o2⟩ := or_zero hin.1 hin.2.1
  obtain ⟨o3, o4⟩ := or_zero o1 hin.2.2.1
  obtain ⟨o5, o6⟩ := or_zero o3 hin.2.2.2
  have key : orI (w0 (hiZ T)) (w1 (hiZ T)) (w2 (hiZ T)) (w3 (hiZ T)) = 0 ↔ T < 340282366920938463463374607431768211456 := by
    unfold orI
    rw [o6, o4, o2]
    have hv := nval_id hz
    constructor
    · rintro ⟨⟨⟨k0, k1⟩, k2⟩, k3⟩
      rw [k0, k1, k2, k3] at hv
      have : hiZ T = 0 := by rw [← hv]; decide
      unfold hiZ at this
      omega
    · intro hlt
      have : hiZ T = 0 := by unfold hiZ; omega
      rw [this]
      exact ⟨⟨⟨rfl, rfl⟩, rfl⟩, rfl⟩
  rw [show decide (orI (w0 (hiZ T)) (w1 (hiZ T)) (w2 (hiZ T)) (w3 (hiZ T)) = 0) = decide (T < 340282366920938463463374607431768211456) by rw [Bool.eq_iff_iff]; simpa using key]
  rfl
end Go.Proofs.YtnbfnoomhlamnaaGreat.N2

/- Chapter 2: times and divide in the table. -/
namespace Go.Proofs.YtnbfnoomhlamnaaGreat.N2
open Go Go.Eng
def gTimes : List V → Option (Bool × V)
  | [.agg [.int .u32 a, .int .u32 b, .int .u32 c, .int .u32 d], .agg [.int .u32 e, .int .u32 f, .int .u32 g, .int .u32 h]] => some (inN a b c d && inN e f g h, .tuple [nW (nval a b c d * nval e f g h), .bool (decide (nval a b c d * nval e f g h < 340282366920938463463374607431768211456))])
  | _ => none
def gDivide : List V → Option (Bool × V)
  | [.agg [.int .u32 a, .int .u32 b, .int .u32 c, .int .u32 d], .agg [.int .u32 e, .int .u32 f, .int .u32 g, .int .u32 h]] => some ((inN a b c d && inN e f g h) && decide (1 ≤ nval e f g h), .tuple [nW (nval a b c d / nval e f g h), nW (nval a b c d % nval e f g h)])
  | _ => none
def tabD : PTab := addTab 13 gTimes (addTab 56 gDivide tabA)
theorem tabD_ok : PTabOk Tryz.prog tabD := by
  refine addTab_ok ?_ (addTab_ok ?_ tabA_ok)
  · intro args c v h hc
    unfold gTimes at h
    split at h
    · cases h; simp only [Bool.and_eq_true] at hc; exact times_p hc.1 hc.2
    · cases h
  · intro args c v h hc
    unfold gDivide at h
    split at h
    · cases h; simp only [Bool.and_eq_true, decide_eq_true_eq] at hc; exact divide_p hc.1.1 hc.1.2 hc.2
    · cases h
end Go.Proofs.YtnbfnoomhlamnaaGreat.N2
