/- Chapter 2: divide's contract. -/
import Derived.Test.YtnbfnoomhlamnaaGreatNaNat3
namespace Go.Proofs.YtnbfnoomhlamnaaGreat.N2
open Go Go.Eng
noncomputable def dvTree1 : List PV → Fin
  | [.i s, .i n, .i i, .i a0, .i a1, .i a2, .i a3, .i b0, .i b1, .i b2, .i b3] => .br (pB (n ≤ 128 ∧ i = 0 ∧ inN a0 a1 a2 a3 = true ∧ inN b0 b1 b2 b3 = true ∧ nval b0 b1 b2 b3 * 2 ^ n.toNat < 340282366920938463463374607431768211456))
      (.leaf (.exit 0) (dvX1.at [.i s, .i a0, .i a1, .i a2, .i a3, .i (w0 (nval b0 b1 b2 b3 * 2 ^ n.toNat)), .i (w1 (nval b0 b1 b2 b3 * 2 ^ n.toNat)), .i (w2 (nval b0 b1 b2 b3 * 2 ^ n.toNat)), .i (w3 (nval b0 b1 b2 b3 * 2 ^ n.toNat))])) .no
  | _ => .no
noncomputable def dvTree2 (A B : Int) : List PV → Fin
  | [.i n, .i i, .i a0, .i a1, .i a2, .i a3, .i b0, .i b1, .i b2, .i b3, .i q0, .i q1, .i q2, .i q3] => .br (pB (n ≤ 129 ∧ i = 0 ∧ q0 = 0 ∧ q1 = 0 ∧ q2 = 0 ∧ q3 = 0 ∧ inN a0 a1 a2 a3 = true ∧ inN b0 b1 b2 b3 = true ∧ nval a0 a1 a2 a3 = A ∧ 1 ≤ B ∧ B < 340282366920938463463374607431768211456 ∧ ((n ≤ 0 ∧ A < B) ∨ (1 ≤ n ∧ nval b0 b1 b2 b3 = bK B n.toNat ∧ A < B * 2 ^ n.toNat))))
      (.leaf (.exit 2) (dvX2.at [.i (w0 (A % B)), .i (w1 (A % B)), .i (w2 (A % B)), .i (w3 (A % B)), .i (w0 (A / B)), .i (w1 (A / B)), .i (w2 (A / B)), .i (w3 (A / B))])) .no
  | _ => .no
theorem dvSum1_ok : LoopOk Tryz.prog (lsumF 0 dvT1 dvLp1 dvTree1) := by
  refine lsumF_ok (by kernel_rfl) (fun rd ps e1 st1 h => ?_)
  unfold dvTree1 at h
  split at h
  · rename_i s n i a0 a1 a2 a3 b0 b1 b2 b3
    simp only [Fin.pick] at h
    cases hc : pB (n ≤ 128 ∧ i = 0 ∧ inN a0 a1 a2 a3 = true ∧ inN b0 b1 b2 b3 = true ∧ nval b0 b1 b2 b3 * 2 ^ n.toNat < 340282366920938463463374607431768211456) with
    | false => rw [hc] at h; cases h
    | true =>
      rw [hc, cond_true] at h
      rw [pB_iff] at hc
      obtain ⟨h1, rfl, h3, h4, h5⟩ := hc
      cases h
      obtain ⟨p0, p1, p2, p3⟩ := w_nval h3
      obtain ⟨q0, q1, q2, q3⟩ := w_nval h4
      have hr := nval_range h4
      by_cases hn : 0 ≤ n
      · obtain ⟨k, rfl⟩ : ∃ k : Nat, n = k := ⟨n.toNat, by omega⟩
        rw [show ((k : Int)).toNat = k by omega] at h5 ⊢
        have := dv_loop1 rd s (nval a0 a1 a2 a3) (nval b0 b1 b2 b3) k (by omega) ⟨hr.1, h5⟩ 0 (Nat.zero_le _)
        rw [Int.pow_zero, Int.mul_one, p0, p1, p2, p3, q0, q1, q2, q3] at this
        exact this
      · have hz : n.toNat = 0 := by omega
        rw [hz, Int.pow_zero, Int.mul_one, q0, q1, q2, q3]
        have hr1 := dv_round1 rd s n 0 a0 a1 a2 a3 b0 b1 b2 b3
        rw [decide_eq_false (by omega)] at hr1
        exact loop_leave (T2 := dvT1) (T' := dvX1) (orcP_ok tabA_ok plainL_ok) mixed noLoops_ok (by kernel_rfl) (by kernel_rfl) hr1 codes0 (by simp)
  · cases h
theorem dvSum2_ok (A B : Int) : LoopOk Tryz.prog (lsumF 0 dvT2 dvLp2 (dvTree2 A B)) := by
  refine lsumF_ok (by kernel_rfl) (fun rd ps e1 st1 h => ?_)
  unfold dvTree2 at h
  split at h
  · rename_i n i a0 a1 a2 a3 b0 b1 b2 b3 q0 q1 q2 q3
    simp only [Fin.pick] at h
    cases hc : pB (n ≤ 129 ∧ i = 0 ∧ q0 = 0 ∧ q1 = 0 ∧ q2 = 0 ∧ q3 = 0 ∧ inN a0 a1 a2 a3 = true ∧ inN b0 b1 b2 b3 = true ∧ nval a0 a1 a2 a3 = A ∧ 1 ≤ B ∧ B < 340282366920938463463374607431768211456 ∧ ((n ≤ 0 ∧ A < B) ∨ (1 ≤ n ∧ nval b0 b1 b2 b3 = bK B n.toNat ∧ A < B * 2 ^ n.toNat))) with
    | false => rw [hc] at h; cases h
    | true =>
      rw [hc, cond_true] at h
      rw [pB_iff] at hc
      obtain ⟨h1, rfl, rfl, rfl, rfl, rfl, h7, h8, h9, h10, h11, h12⟩ := hc
      cases h
      obtain ⟨p0, p1, p2, p3⟩ := w_nval h7
      obtain ⟨r0, r1, r2, r3⟩ := w_nval h8
      have hr := nval_range h7
      rw [h9] at p0 p1 p2 p3 hr
      rcases h12 with ⟨hn, hlt⟩ | ⟨hn, hb, hlt⟩
      · have e1 : A / B = 0 := Int.ediv_eq_zero_of_lt hr.1 hlt
        have e2 : A % B = A := Int.emod_eq_of_lt hr.1 hlt
        rw [e1, e2, p0, p1, p2, p3]
        have hr2 := dv_round2 rd n 0 a0 a1 a2 a3 b0 b1 b2 b3 0 0 0 0
        rw [decide_eq_false (by omega)] at hr2
        exact loop_leave (T2 := dvT2) (T' := dvX2) (orcP_ok tabA_ok plainL_ok) mixed noLoops_ok (by kernel_rfl) (by kernel_rfl) hr2 codes0 (by simp)
      · obtain ⟨k, rfl⟩ : ∃ k : Nat, n = k := ⟨n.toNat, by omega⟩
        rw [show ((k : Int)).toNat = k by omega] at hb hlt
        have hbr := nval_range h8
        rw [hb] at hbr r0 r1 r2 r3
        have := dv_loop2 rd A B k (by omega) hr h10 hbr.2 h11 (k, 0, A) ⟨Nat.le_refl _, Int.le_refl 0, hr.1, by dsimp only; omega, hlt⟩
        dsimp only at this
        rw [Nat.sub_self, p0, p1, p2, p3, r0, r1, r2, r3] at this
        exact this
  · cases h
noncomputable def dvL (A B : Int) : Loops := sums (fun n => match n with | 4 => some (lsumF 0 dvT1 dvLp1 dvTree1) | 8 => some (lsumF 0 dvT2 dvLp2 (dvTree2 A B)) | _ => none)
theorem dvL_ok (A B : Int) : loopsOk Tryz.prog (dvL A B) := by
  intro n g hg
  simp only [dvL, sums] at hg
  split at hg
  · cases hg; exact dvSum1_ok
  · cases hg; exact dvSum2_ok A B
  · cases hg
def stI (x y : Int) : Int := wr .i64 ((wd x.toNat : Nat) - (wd y.toNat : Nat))
theorem dv_eval (A B a b c d e f g h : Int) : evalFn Tryz.prog (orcP tabA plainL) (dvL A B) 200 56 Tryz.f56 [.agg [.int .u32 a, .int .u32 b, .int .u32 c, .int .u32 d], .agg [.int .u32 e, .int .u32 f, .int .u32 g, .int .u32 h]] [] (fun v _ => some v) =
    bif inN a b c d then bif inN e f g h then cond (codesB [(dvLp1, dvLp1)]) (bif pB (stI (nval a b c d) (nval e f g h) ≤ 128 ∧ (0 : Int) = 0 ∧ inN a b c d = true ∧ inN e f g h = true ∧ nval e f g h * 2 ^ (stI (nval a b c d) (nval e f g h)).toNat < 340282366920938463463374607431768211456) then
      cond (codesB [(dvLp2, dvLp2)]) (bif pB (wr .i64 (stI (nval a b c d) (nval e f g h) + 1) ≤ 129 ∧ (0 : Int) = 0 ∧ (0 : Int) = 0 ∧ (0 : Int) = 0 ∧ (0 : Int) = 0 ∧ (0 : Int) = 0 ∧ inN a b c d = true ∧
        inN (w0 (nval e f g h * 2 ^ (stI (nval a b c d) (nval e f g h)).toNat)) (w1 (nval e f g h * 2 ^ (stI (nval a b c d) (nval e f g h)).toNat)) (w2 (nval e f g h * 2 ^ (stI (nval a b c d) (nval e f g h)).toNat)) (w3 (nval e f g h * 2 ^ (stI (nval a b c d) (nval e f g h)).toNat)) = true ∧
        nval a b c d = A ∧ 1 ≤ B ∧ B < 340282366920938463463374607431768211456 ∧ ((wr .i64 (stI (nval a b c d) (nval e f g h) + 1) ≤ 0 ∧ A < B) ∨ (1 ≤ wr .i64 (stI (nval a b c d) (nval e f g h) + 1) ∧
          nval (w0 (nval e f g h * 2 ^ (stI (nval a b c d) (nval e f g h)).toNat)) (w1 (nval e f g h * 2 ^ (stI (nval a b c d) (nval e f g h)).toNat)) (w2 (nval e f g h * 2 ^ (stI (nval a b c d) (nval e f g h)).toNat)) (w3 (nval e f g h * 2 ^ (stI (nval a b c d) (nval e f g h)).toNat)) =
            bK B (wr .i64 (stI (nval a b c d) (nval e f g h) + 1)).toNat ∧ A < B * 2 ^ (wr .i64 (stI (nval a b c d) (nval e f g h) + 1)).toNat))) then
        some (.tuple [nW (A / B), nW (A % B)]) else none) none else none) none else none else none := by kernel_rfl
theorem codesD1 : codesB [(dvLp1, dvLp1)] = true := by rw [codesB_iff]; intro x hx; simp at hx; rw [hx]
theorem codesD2 : codesB [(dvLp2, dvLp2)] = true := by rw [codesB_iff]; intro x hx; simp at hx; rw [hx]
theorem cast2 (k : Nat) : (2 : Int) ^ k = ((2 ^ k : Nat) : Int) := by rw [Int.natCast_pow]; rfl
theorem divide_p {a b c d e f g h : Int} (hx : inN a b c d = true) (hy : inN e f g h = true) (hb : 1 ≤ nval e f g h) :
    FnPure Tryz.prog 56 [.agg [.int .u32 a, .int .u32 b, .int .u32 c, .int .u32 d], .agg [.int .u32 e, .int .u32 f, .int .u32 g, .int .u32 h]] (.tuple [nW (nval a b c d / nval e f g h), nW (nval a b c d % nval e f g h)]) := by
  refine fnPure_of_eval (N := 200) (orcP_ok tabA_ok plainL_ok) mixed Tryz.func56 (by kernel_rfl) (dvL_ok (nval a b c d) (nval e f g h)) ?_ rfl rfl
  rw [dv_eval, hx, hy, codesD1, codesD2]
  have rA := nval_range hx
  have rB := nval_range hy
  generalize nval a b c d = A at *
  generalize nval e f g h = B at *
  obtain ⟨m, rfl⟩ : ∃ m : Nat, A = m := ⟨A.toNat, by omega⟩
  obtain ⟨n, rfl⟩ : ∃ n : Nat, B = n := ⟨B.toNat, by omega⟩
  have hn0 : n ≠ 0 := by omega
  obtain ⟨b1, b2, b3⟩ := wd_spec hn0
  have hA : wd m ≤ 128 := wd_le (k := 128) (by omega)
  have hB : wd n ≤ 128 := wd_le (k := 128) (by omega)
  have hst : stI (m : Int) (n : Int) = (wd m : Int) - (wd n : Int) := by
    unfold stI
    simp only [Int.toNat_natCast]
    exact wr64 (by omega) (by omega)
  have hmlt : m < 2 ^ wd m := by
    by_cases h0 : m = 0
    · subst h0; rw [wd_zero]; decide
    · exact (wd_spec h0).2.2
  -- the divisor, doubled
  have hdbl : (n : Int) * 2 ^ ((wd m : Int) - (wd n : Int)).toNat < 340282366920938463463374607431768211456 := by
    rw [cast2, ← Int.natCast_mul]
    by_cases hle : wd n ≤ wd m
    · have e : ((wd m : Int) - (wd n : Int)).toNat = wd m - wd n := by omega
      rw [e]
      have h1 : n * 2 ^ (wd m - wd n) < 2 ^ wd n * 2 ^ (wd m - wd n) := Nat.mul_lt_mul_of_pos_right b3 (Nat.two_pow_pos _)
      rw [← Nat.pow_add, show wd n + (wd m - wd n) = wd m by omega] at h1
      have h2 : 2 ^ wd m ≤ 2 ^ 128 := Nat.pow_le_pow_right (by decide) hA
      have h3 : (2 : Nat) ^ 128 = 340282366920938463463374607431768211456 := rfl
      omega
    · have e : ((wd m : Int) - (wd n : Int)).toNat = 0 := by omega
      rw [e, Nat.pow_zero, Nat.mul_one]; omega
  have hw1 : wr .i64 ((wd m : Int) - (wd n : Int) + 1) = (wd m : Int) - (wd n : Int) + 1 := wr64 (by omega) (by omega)
  rw [hst, hw1, pB_iff.2 ⟨by omega, rfl, rfl, rfl, hdbl⟩]
  have hnn : 0 ≤ (n : Int) * 2 ^ ((wd m : Int) - (wd n : Int)).toNat := Int.mul_nonneg (by omega) (by rw [cast2]; exact Int.natCast_nonneg _)
  have hor : ((wd m : Int) - (wd n : Int) + 1 ≤ 0 ∧ (m : Int) < n) ∨ (1 ≤ (wd m : Int) - (wd n : Int) + 1 ∧
      nval (w0 ((n : Int) * 2 ^ ((wd m : Int) - (wd n : Int)).toNat)) (w1 ((n : Int) * 2 ^ ((wd m : Int) - (wd n : Int)).toNat)) (w2 ((n : Int) * 2 ^ ((wd m : Int) - (wd n : Int)).toNat)) (w3 ((n : Int) * 2 ^ ((wd m : Int) - (wd n : Int)).toNat)) = bK (n : Int) ((wd m : Int) - (wd n : Int) + 1).toNat ∧
      (m : Int) < (n : Int) * 2 ^ ((wd m : Int) - (wd n : Int) + 1).toNat) := by
    rw [nval_id ⟨hnn, hdbl⟩]
    by_cases hle : wd n ≤ wd m
    · refine .inr ⟨by omega, ?_, ?_⟩
      · unfold bK
        rw [if_neg (by omega)]
        congr 2
        omega
      · rw [cast2, ← Int.natCast_mul]
        have e : ((wd m : Int) - (wd n : Int) + 1).toNat = wd m - wd n + 1 := by omega
        rw [e]
        have h1 : 2 ^ (wd n - 1) * 2 ^ (wd m - wd n + 1) ≤ n * 2 ^ (wd m - wd n + 1) := Nat.mul_le_mul_right _ b2
        rw [← Nat.pow_add, show wd n - 1 + (wd m - wd n + 1) = wd m by omega] at h1
        omega
    · refine .inl ⟨by omega, ?_⟩
      have h1 : 2 ^ wd m ≤ 2 ^ (wd n - 1) := Nat.pow_le_pow_right (by decide) (by omega)
      omega
  rw [pB_iff.2 ⟨by omega, rfl, rfl, rfl, rfl, rfl, rfl, inN_w _, rfl, hb, rB.2, hor⟩]
  rfl
end Go.Proofs.YtnbfnoomhlamnaaGreat.N2
