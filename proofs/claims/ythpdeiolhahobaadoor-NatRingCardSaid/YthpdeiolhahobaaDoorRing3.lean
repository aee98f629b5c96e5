/- Chapter 2: the law NatRing is true. -/
import Derived.Test.YthpdeiolhahobaaDoorRing2
namespace Go.Proofs.YthpdeiolhahobaaDoor
open Go Go.Eng
def nthI (r : List PV) : Nat → Int
  | 0 => (headP r).toI
  | n + 1 => nthI (tailP r) n
theorem rgT_norm (q ix a b c d e f g h i j k l : Int) (r : List PV) : rgT.at (.i q :: .i ix :: .i a :: .i b :: .i c :: .i d :: .i e :: .i f :: .i g :: .i h :: .i i :: .i j :: .i k :: .i l :: r) = rgT.at [.i q, .i ix, .i a, .i b, .i c, .i d, .i e, .i f, .i g, .i h, .i i, .i j, .i k, .i l, .i (nthI r 0), .i (nthI r 1), .i (nthI r 2), .i (nthI r 3), .i (nthI r 4), .i (nthI r 5), .i (nthI r 6), .i (nthI r 7), .i (nthI r 8), .i (nthI r 9), .i (nthI r 10), .i (nthI r 11), .i (nthI r 12), .i (nthI r 13), .i (nthI r 14), .i (nthI r 15), .i (nthI r 16), .i (nthI r 17), .i (nthI r 18), .i (nthI r 19), .i (nthI r 20), .i (nthI r 21), .i (nthI r 22), .i (nthI r 23)] := by kernel_rfl
theorem rgX_norm (q a b c d e f g h i j k l : Int) (r : List PV) : rgX.at (.i q :: .i a :: .i b :: .i c :: .i d :: .i e :: .i f :: .i g :: .i h :: .i i :: .i j :: .i k :: .i l :: r) = rgX.at [.i q, .i a, .i b, .i c, .i d, .i e, .i f, .i g, .i h, .i i, .i j, .i k, .i l, .i (nthI r 0), .i (nthI r 1), .i (nthI r 2), .i (nthI r 3), .i (nthI r 4), .i (nthI r 5), .i (nthI r 6), .i (nthI r 7), .i (nthI r 8), .i (nthI r 9), .i (nthI r 10), .i (nthI r 11), .i (nthI r 12), .i (nthI r 13), .i (nthI r 14), .i (nthI r 15), .i (nthI r 16), .i (nthI r 17), .i (nthI r 18), .i (nthI r 19), .i (nthI r 20), .i (nthI r 21), .i (nthI r 22), .i (nthI r 23)] := by kernel_rfl
theorem rg_loop (rd : Option Nat) (q a b c d e f g h i j k l y0 y1 y2 y3 y4 y5 y6 y7 y8 y9 y10 y11 y12 y13 y14 y15 y16 y17 y18 y19 y20 y21 y22 y23 : Int) (hx : inN a b c d = true) (hy : inN e f g h = true) (hz : inN i j k l = true) : ∀ x : Nat, x ≤ 2 → SimC Tryd.prog 0 rd (.loop rgLp) (rgT.at [.i q, .i (x : Int), .i a, .i b, .i c, .i d, .i e, .i f, .i g, .i h, .i i, .i j, .i k, .i l, .i y0, .i y1, .i y2, .i y3, .i y4, .i y5, .i y6, .i y7, .i y8, .i y9, .i y10, .i y11, .i y12, .i y13, .i y14, .i y15, .i y16, .i y17, .i y18, .i y19, .i y20, .i y21, .i y22, .i y23]) (.exit 2) (rgX.at [.i q, .i a, .i b, .i c, .i d, .i e, .i f, .i g, .i h, .i i, .i j, .i k, .i l, .i y0, .i y1, .i y2, .i y3, .i y4, .i y5, .i y6, .i y7, .i y8, .i y9, .i y10, .i y11, .i y12, .i y13, .i y14, .i y15, .i y16, .i y17, .i y18, .i y19, .i y20, .i y21, .i y22, .i y23]) := by
  refine loop_of_rounds (C := orcV N0) (L := noLoops) (N := 200) (me := 6) (T := rgT) (T' := rgX) orcN_ok mixed noLoops_ok (by kernel_rfl) (by kernel_rfl) (X := Nat)
    (fun x => [.i q, .i (x : Int), .i a, .i b, .i c, .i d, .i e, .i f, .i g, .i h, .i i, .i j, .i k, .i l, .i y0, .i y1, .i y2, .i y3, .i y4, .i y5, .i y6, .i y7, .i y8, .i y9, .i y10, .i y11, .i y12, .i y13, .i y14, .i y15, .i y16, .i y17, .i y18, .i y19, .i y20, .i y21, .i y22, .i y23]) (fun x => x ≤ 2) (fun x => 2 - x) (fun _ => (.exit 2, [.i q, .i a, .i b, .i c, .i d, .i e, .i f, .i g, .i h, .i i, .i j, .i k, .i l, .i y0, .i y1, .i y2, .i y3, .i y4, .i y5, .i y6, .i y7, .i y8, .i y9, .i y10, .i y11, .i y12, .i y13, .i y14, .i y15, .i y16, .i y17, .i y18, .i y19, .i y20, .i y21, .i y22, .i y23])) ?_
  have rx := nval_range hx
  have ry := nval_range hy
  have rz := nval_range hz
  intro x hle
  rcases (show x = 0 ∨ x = 1 ∨ x = 2 by omega) with rfl | rfl | rfl
  · have h := rg_round0 N0 rd q a b c d e f g h i j k l y0 y1 y2 y3 y4 y5 y6 y7 y8 y9 y10 y11 y12 y13 y14 y15 y16 y17 y18 y19 y20 y21 y22 y23
    rw [show N0.inn = inN from rfl, hx, hy, hz, show N0.add = addZ from rfl, show N0.addE = addE from rfl, show N0.z = nval from rfl, rgAll_next isAdd rx.1 ry.1 rz.1] at h
    exact ⟨_, _, _, h, codes0, .inl ⟨rfl, 1, rfl, by omega, by omega, rfl⟩⟩
  · have h := rg_round1 N0 rd q a b c d e f g h i j k l y0 y1 y2 y3 y4 y5 y6 y7 y8 y9 y10 y11 y12 y13 y14 y15 y16 y17 y18 y19 y20 y21 y22 y23
    rw [show N0.inn = inN from rfl, hx, hy, hz, show N0.mul = mulZ from rfl, show N0.mulE = mulE from rfl, show N0.z = nval from rfl, rgAll_next isMul rx.1 ry.1 rz.1] at h
    exact ⟨_, _, _, h, codes0, .inl ⟨rfl, 2, rfl, by omega, by omega, rfl⟩⟩
  · exact ⟨_, _, _, rg_round2 N0 rd q a b c d e f g h i j k l y0 y1 y2 y3 y4 y5 y6 y7 y8 y9 y10 y11 y12 y13 y14 y15 y16 y17 y18 y19 y20 y21 y22 y23, codes0, .inr ⟨by simp, rfl⟩⟩
theorem rgL_ok : loopsOk Tryd.prog (rgL N0) := by
  intro n g hg
  simp only [rgL, sums] at hg
  split at hg
  · cases hg
    refine lsumF_ok (by kernel_rfl) (fun rd ps e1 st1 hq => ?_)
    unfold rgTree at hq
    split at hq
    · rename_i q ix a b c d e f g h i j k l r
      simp only [Fin.pick] at hq
      cases hc : (decide (ix = 0) && (N0.inn a b c d && (N0.inn e f g h && N0.inn i j k l))) with
      | false => rw [hc] at hq; cases hq
      | true =>
        rw [hc, cond_true] at hq
        cases hq
        simp only [Bool.and_eq_true, decide_eq_true_eq] at hc
        obtain ⟨rfl, hx, hy, hz⟩ := hc
        rw [rgT_norm, rgX_norm]
        exact rg_loop rd q a b c d e f g h i j k l (nthI r 0) (nthI r 1) (nthI r 2) (nthI r 3) (nthI r 4) (nthI r 5) (nthI r 6) (nthI r 7) (nthI r 8) (nthI r 9) (nthI r 10) (nthI r 11) (nthI r 12) (nthI r 13) (nthI r 14) (nthI r 15) (nthI r 16) (nthI r 17) (nthI r 18) (nthI r 19) (nthI r 20) (nthI r 21) (nthI r 22) (nthI r 23) hx hy hz 0 (by omega)
    · cases hq
  · cases hg
theorem rgFour_next {A B C : Int} (hA : 0 ≤ A ∧ A < 340282366920938463463374607431768211456) (hB : 0 ≤ B ∧ B < 340282366920938463463374607431768211456) (hC : 0 ≤ C ∧ C < 340282366920938463463374607431768211456) (K : Option V) :
    rgFour N0 A B C true true true K = K := by
  unfold rgFour
  rw [iq0, iq0, iq0]
  simp only [Bool.and_true, cond_true]
  show cond (decide (wr .i64 (addE B C + mulE A (N0.q4 (addZ B C))) = 0)) (cond (!decide (wr .i64 (wr .i64 (mulE A B + mulE A C) + addE (N0.q4 (mulZ A B)) (N0.q4 (mulZ A C))) = 0)) fls2 (cond (!N0.eqN (mulZ A (N0.q4 (addZ B C))) (addZ (N0.q4 (mulZ A B)) (N0.q4 (mulZ A C)))) fls2 K)) K = K
  by_cases hs : wr .i64 (addE B C + mulE A (N0.q4 (addZ B C))) = 0
  · rw [decide_eq_true hs]
    have k1 := err_cases isAdd B C
    have k2 := err_cases isMul A (N0.q4 (addZ B C))
    rw [wr64 (by rcases k1 with k | k <;> rcases k2 with k' | k' <;> omega) (by rcases k1 with k | k <;> rcases k2 with k' | k' <;> omega)] at hs
    obtain ⟨z1, v1, l1⟩ := k1.resolve_right (by rcases k2 with k' | k' <;> omega)
    rw [v1, q40 ⟨by omega, l1⟩] at k2 hs
    obtain ⟨z2, v2, l2⟩ := k2.resolve_right (by omega)
    have e : A * (B + C) = A * B + A * C := Int.mul_add A B C
    have p1 : 0 ≤ A * B := Int.mul_nonneg hA.1 hB.1
    have p2 : 0 ≤ A * C := Int.mul_nonneg hA.1 hC.1
    have k3 := err_cases isMul A B
    have k4 := err_cases isMul A C
    have m1 := isMul.val A B
    have m2 := isMul.val A C
    have m3 := isMul.err A B
    have m4 := isMul.err A C
    have l2' : A * (B + C) < 340282366920938463463374607431768211456 := l2
    have q1 : A * B < 340282366920938463463374607431768211456 := by omega
    have q2 : A * C < 340282366920938463463374607431768211456 := by omega
    rw [if_pos q1] at m1 m3
    rw [if_pos q2] at m2 m4
    have s1 := isAdd.val (A * B) (A * C)
    have s2 := isAdd.err (A * B) (A * C)
    have q3 : A * B + A * C < 340282366920938463463374607431768211456 := by omega
    rw [if_pos q3] at s1 s2
    rw [m1, m2, m3, m4, q40 ⟨p1, q1⟩, q40 ⟨p2, q2⟩, s1, s2, v1, q40 ⟨by omega, l1⟩, v2]
    rw [show A * (B + C) = A * B + A * C from e, eqN_self]
    rfl
  · rw [decide_eq_false hs]; rfl
theorem word_in {x : Int} (h : 0 ≤ x ∧ x < 4294967296) : inN x 0 0 0 = true := by rw [inN_iff]; omega
theorem ring_true {a b c d e f g h i j k l x y z : Int} (hx : inN a b c d = true) (hy : inN e f g h = true) (hz : inN i j k l = true) (wx : 0 ≤ x ∧ x < 4294967296) (wy : 0 ≤ y ∧ y < 4294967296) (wz : 0 ≤ z ∧ z < 4294967296) :
    evalFn Tryd.prog (orcV N0) (rgL N0) 200 6 Tryd.f6 [.agg [.int .u32 a, .int .u32 b, .int .u32 c, .int .u32 d], .agg [.int .u32 e, .int .u32 f, .int .u32 g, .int .u32 h], .agg [.int .u32 i, .int .u32 j, .int .u32 k, .int .u32 l], .int .u32 x, .int .u32 y, .int .u32 z] [] (fun v _ => some v) = some (.bool true) := by
  have hcd : codesB [(rgLp, rgLp)] = true := by rw [codesB_iff]; intro x hx; simp at hx; rw [hx]
  rw [ring_eval, hcd, show N0.inn = inN from rfl, show N0.z = nval from rfl, hx, hy, hz, word_in wx, word_in wy, word_in wz, decide_eq_true (show (0 : Int) = 0 from rfl)]
  rw [rgFour_next (nval_range hx) (nval_range hy) (nval_range hz), rgFour_next (nval_range (word_in wx)) (nval_range (word_in wy)) (nval_range (word_in wz))]
  rfl
end Go.Proofs.YthpdeiolhahobaaDoor
