/- Chapter 2: the law NatBack is true. -/
import Derived.Test.YthpdeiolhahobaaDoorLBack
import Derived.Test.YthpdeiolhahobaaDoorLBack2
namespace Go.Proofs.YthpdeiolhahobaaDoor
open Go Go.Eng
theorem eq4_iff {z a b c d : Int} (hz : 0 ≤ z ∧ z < 340282366920938463463374607431768211456) (h : inN a b c d = true) : W0.eq4 z a b c d = decide (z = nval a b c d) := by
  obtain ⟨p0, p1, p2, p3⟩ := w_nval h
  have hr := nval_range h
  have hj := w_inj hz hr
  rw [p0, p1, p2, p3] at hj
  unfold NW.eq4
  rw [show W0.w0 = w0 from rfl, show W0.w1 = w1 from rfl, show W0.w2 = w2 from rfl, show W0.w3 = w3 from rfl, Bool.eq_iff_iff]
  simp only [Bool.and_eq_true, decide_eq_true_eq, and_true]
  exact hj
theorem eqA_iff {a b c d e f g h : Int} (hx : inN a b c d = true) (hy : inN e f g h = true) : eqA a b c d e f g h = decide (nval a b c d = nval e f g h) := by
  have hx2 := hx
  have hy2 := hy
  rw [inN_iff] at hx2 hy2
  unfold eqA
  rw [Bool.eq_iff_iff]
  simp only [Bool.and_eq_true, decide_eq_true_eq, and_true]
  unfold nval
  omega
theorem zero_in : inN 0 0 0 0 = true := by rw [inN_iff]; omega
theorem big_in : inN 4294967295 2147483647 0 0 = true := by rw [inN_iff]; omega
theorem lbFin_true {a b c d : Int} (hx : inN a b c d = true) (hA : nval a b c d < 9223372036854775808) : lbFin W0 (nval a b c d) a b c d = some (.bool true) := by
  have hr := nval_range hx
  unfold lbFin
  have i1 : W0.int (nval a b c d) = nval a b c d := by rw [show W0.int = intZ from rfl]; unfold intZ; rw [decide_eq_true hA]; rfl
  have i2 : W0.intE (nval a b c d) = 0 := by rw [show W0.intE = intE from rfl]; unfold intE; rw [decide_eq_true hA]; rfl
  have o1 : W0.of (nval a b c d) = nval a b c d := by rw [show W0.of = ofZ from rfl]; unfold ofZ; rw [decide_eq_false (by omega)]; rfl
  have o2 : W0.ofE (nval a b c d) = 0 := by rw [show W0.ofE = ofE from rfl]; unfold ofE; rw [decide_eq_false (by omega)]; rfl
  rw [i1, i2, o2, o1, eq4_iff hr hx, decide_eq_true (show nval a b c d = nval a b c d from rfl)]
  rfl
theorem lbMid_true {a b c d n : Int} (hx : inN a b c d = true) (hn : -9223372036854775808 ≤ n ∧ n < 9223372036854775808) : lbMid W0 (nval a b c d) a b c d n true = some (.bool true) := by
  have hr := nval_range hx
  have hend : lbEnd W0 (nval a b c d) a b c d true = some (.bool true) := by
    unfold lbEnd
    by_cases hA : nval a b c d < 9223372036854775808
    · have i2 : W0.intE (nval a b c d) = 0 := by rw [show W0.intE = intE from rfl]; unfold intE; rw [decide_eq_true hA]; rfl
      rw [i2, lbFin_true hx hA]; rfl
    · have i1 : W0.int (nval a b c d) = 0 := by rw [show W0.int = intZ from rfl]; unfold intZ; rw [decide_eq_false hA]; rfl
      have i2 : W0.intE (nval a b c d) = 3 := by rw [show W0.intE = intE from rfl]; unfold intE; rw [decide_eq_false hA]; rfl
      have hb : nval 4294967295 2147483647 0 0 = 9223372036854775807 := by unfold nval; omega
      have hc : W0.cmp (nval a b c d) (W0.z 4294967295 2147483647 0 0) = 1 := by
        rw [show W0.cmp = cmpI from rfl, show W0.z = nval from rfl, hb]
        unfold cmpI
        rw [decide_eq_false (by omega), decide_eq_true (by omega)]; rfl
      rw [i1, i2, hc, show W0.inn = inN from rfl, big_in]; rfl
  unfold lbMid
  have oc : W0.ofC n = true := by rw [show W0.ofC = ofC0 from rfl]; unfold ofC0; rw [decide_eq_true hn]
  rw [oc]
  by_cases h0 : n < 0
  · have o1 : W0.of n = 0 := by rw [show W0.of = ofZ from rfl]; unfold ofZ; rw [decide_eq_true h0]; rfl
    have o2 : W0.ofE n = 21 := by rw [show W0.ofE = ofE from rfl]; unfold ofE; rw [decide_eq_true h0]; rfl
    rw [decide_eq_true h0, o2, o1, eq4_iff ⟨by omega, by omega⟩ zero_in]
    rw [show nval 0 0 0 0 = 0 from rfl]; rfl
  · have o1 : W0.of n = n := by rw [show W0.of = ofZ from rfl]; unfold ofZ; rw [decide_eq_false h0]; rfl
    have o2 : W0.ofE n = 0 := by rw [show W0.ofE = ofE from rfl]; unfold ofE; rw [decide_eq_false h0]; rfl
    have q : W0.q4 n = n := by
      unfold NW.q4
      rw [show W0.z = nval from rfl, show W0.w0 = w0 from rfl, show W0.w1 = w1 from rfl, show W0.w2 = w2 from rfl, show W0.w3 = w3 from rfl]
      exact nval_id ⟨by omega, by omega⟩
    have i1 : W0.int n = n := by rw [show W0.int = intZ from rfl]; unfold intZ; rw [decide_eq_true (by omega)]; rfl
    have i2 : W0.intE n = 0 := by rw [show W0.intE = intE from rfl]; unfold intE; rw [decide_eq_true (by omega)]; rfl
    have c2 : W0.ofC (W0.int (nval a b c d)) = true := by
      rw [show W0.ofC = ofC0 from rfl, show W0.int = intZ from rfl]
      unfold ofC0 intZ
      by_cases hA : nval a b c d < 9223372036854775808
      · rw [decide_eq_true hA, cond_true, decide_eq_true (by omega)]
      · rw [decide_eq_false hA, cond_false, decide_eq_true (by omega)]
    rw [decide_eq_false h0, o1, o2, q, i1, i2, c2, hend, show W0.iq n = true from inN_w n, decide_eq_true (show n = n from rfl)]
    rfl
theorem lbO_true {a b c d e f g h n o1 : Int} (hx : inN a b c d = true) (hy : inN e f g h = true) (hn : -9223372036854775808 ≤ n ∧ n < 9223372036854775808) (ho : cmpI (nval a b c d) (nval e f g h) = o1) :
    lbO W0 (nval a b c d) (nval e f g h) a b c d e f g h n true true o1 = some (.bool true) := by
  unfold lbO
  rw [show W0.cmp = cmpI from rfl, ho, decide_eq_true (show o1 = o1 from rfl), lbMid_true hx hn, eqA_iff hx hy]
  have hz : decide (o1 = 0) = decide (nval a b c d = nval e f g h) := by
    rw [← ho]
    unfold cmpI
    by_cases h1 : nval a b c d < nval e f g h
    · rw [decide_eq_true h1, decide_eq_false (show ¬ nval a b c d = nval e f g h by omega)]; rfl
    · by_cases h2 : nval e f g h < nval a b c d
      · rw [decide_eq_false h1, decide_eq_true h2, decide_eq_false (show ¬ nval a b c d = nval e f g h by omega)]; rfl
      · rw [decide_eq_false h1, decide_eq_false h2, decide_eq_true (show nval a b c d = nval e f g h by omega)]; rfl
  rw [hz]
  cases decide (nval a b c d = nval e f g h) <;> rfl
theorem back_true {a b c d e f g h n : Int} (hx : inN a b c d = true) (hy : inN e f g h = true) (hn : -9223372036854775808 ≤ n ∧ n < 9223372036854775808) :
    evalFn Tryd.prog (orcW W0) noLoops 200 9 Tryd.f9 [.agg [.int .u32 a, .int .u32 b, .int .u32 c, .int .u32 d], .agg [.int .u32 e, .int .u32 f, .int .u32 g, .int .u32 h], .int .i64 n] [] (fun v _ => some v) = some (.bool true) := by
  rw [back_eval, show W0.tx = txB from rfl, show W0.z = nval from rfl, show W0.inn = inN from rfl, hx, hy]
  have hA := nval_range hx
  have hB := nval_range hy
  have hO : ∀ o1 : Int, cmpI (nval a b c d) (nval e f g h) = o1 → lbO W0 (nval a b c d) (nval e f g h) a b c d e f g h n true true o1 = some (.bool true) := fun o1 ho => lbO_true hx hy hn ho
  have hE := eq4_iff hA hx
  generalize nval a b c d = A at *
  generalize nval e f g h = B at *
  obtain ⟨t0, t1⟩ := lenS_txB hA
  obtain ⟨r1, r2⟩ := read_txB hA
  unfold lbAll
  have c1 : W0.rdC (txB A) = true := by rw [show W0.rdC = rdC0 from rfl]; unfold rdC0; rw [decide_eq_true (by omega)]
  have c2 : strEq (txB A) ⟨#[]⟩ = false := by
    cases hs : strEq (txB A) ⟨#[]⟩ with
    | false => rfl
    | true => rw [strEq_iff.1 hs] at t0; exact absurd t0 (by decide)
  have l1 : lenS (txB A) = (tb A.toNat).length := by unfold lenS; rw [txB_list]
  have l2 : lenS (txB B) = (tb B.toNat).length := by unfold lenS; rw [txB_list]
  have k : ∀ x : Nat, Int.ofNat x = (x : Int) := fun _ => rfl
  rw [c1, show W0.rdE = rdE from rfl, r2, show W0.rd = rdV from rfl, r1, hE, decide_eq_true (show A = A from rfl), c2, k, k]
  simp only [cond_true, cond_false, Bool.not_true, decide_true]
  by_cases hl : lenS (txB A) = lenS (txB B)
  · rw [decide_eq_true (show ((lenS (txB A) : Nat) : Int) = ((lenS (txB B) : Nat) : Int) by omega)]
    have e1 : strLt (txB A) (txB B) = decide (A.toNat < B.toNat) := by unfold strLt; rw [txB_list, txB_list]; exact tb_lt _ _ (by omega) (by omega) (by omega)
    have e2 : strEq (txB A) (txB B) = decide (A = B) := by
      unfold strEq
      rw [txB_list, txB_list, Bool.eq_iff_iff, beqBs_iff, decide_eq_true_eq]
      exact ⟨fun e => by have := tb_inj (by omega) (by omega) e; omega, fun e => by rw [e]⟩
    rw [e1, e2]
    by_cases h1 : A < B
    · rw [decide_eq_true (show A.toNat < B.toNat by omega)]
      exact hO _ (by unfold cmpI; rw [decide_eq_true h1]; rfl)
    · rw [decide_eq_false (show ¬ A.toNat < B.toNat by omega)]
      by_cases h2 : A = B
      · rw [decide_eq_true h2]
        exact hO _ (by unfold cmpI; rw [decide_eq_false h1, decide_eq_false (show ¬ B < A by omega)]; rfl)
      · rw [decide_eq_false h2]
        exact hO _ (by unfold cmpI; rw [decide_eq_false h1, decide_eq_true (show B < A by omega)]; rfl)
  · rw [decide_eq_false (show ¬ ((lenS (txB A) : Nat) : Int) = ((lenS (txB B) : Nat) : Int) by omega)]
    have m1 := tb_mono A.toNat B.toNat
    have m2 := tb_mono B.toNat A.toNat
    by_cases h1 : lenS (txB A) < lenS (txB B)
    · rw [decide_eq_true (show ((lenS (txB A) : Nat) : Int) < ((lenS (txB B) : Nat) : Int) by omega)]
      exact hO _ (by unfold cmpI; rw [decide_eq_true (show A < B by omega)]; rfl)
    · rw [decide_eq_false (show ¬ ((lenS (txB A) : Nat) : Int) < ((lenS (txB B) : Nat) : Int) by omega)]
      exact hO _ (by unfold cmpI; rw [decide_eq_false (show ¬ A < B by omega), decide_eq_true (show B < A by omega)]; rfl)
end Go.Proofs.YthpdeiolhahobaaDoor
