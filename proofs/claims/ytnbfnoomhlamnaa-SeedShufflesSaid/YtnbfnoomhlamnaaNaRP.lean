/- Texts merged: NaRP, NaOf, NaRAdd. -/
import Derived.Test.YtnbfnoomhlamnaaNaR14
import Derived.Test.YtnbfnoomhlamnaaNaNat8
/- Chapter 2, the reference: Read: the states of its loop. -/
namespace Go.Proofs.Ytnbfnoomhlamnaa.N2
open Go Go.Eng
def gParts (N : Int → Int) (E : Int → Int) (ok : List Int → Bool) (vl : List Int → Int) : List V → List Blk → Option (Bool × V × List Blk)
  | [.gs 0], [.rs _ 1 (.ints .i64 xs)] => some (ok xs, .tuple [nW (N (vl xs)), .int .i64 (E (vl xs))], [])
  | _, _ => none
def okP (xs : List Int) : Bool := isD xs && decide (xs.length ≤ 999999)
def hTabP : HTab := addH 86 (gParts ptZ ptE okP val) (hTabE E0)
theorem hTabP_ok : HTabOk Try.prog hTabP := by
  refine addH_ok ?_ hTabE_ok
  intro args h c v nb hq hc
  unfold gParts at hq
  split at hq
  · rename_i n1 xs
    cases hq; exact ⟨.of Try.func86 (by kernel_rfl), parts_fn n1 hc⟩
  · cases hq
def domP : FuncId → Bool := fun f => Nat.beq f 86 || domE f
noncomputable abbrev orcPt (LL : FuncId → Loops) : Oracle := inl Try.prog ftab tabA LL 200 never domP (orElse domT (resOrc rTab) (hOrcP nrI hTabP)) 20
theorem orcPt_ok {LL : FuncId → Loops} (hL : ∀ f, loopsOk Try.prog (LL f)) : OracleOk Try.prog (orcPt LL) := inl_ok (orElse_ok (resOrc_ok rTab_ok) (hOrcP_ok hTabP_ok)) ftab_ok tabA_ok hL mixed 20
noncomputable abbrev orcQ (HT : HTab) : Oracle := inl Try.prog ftab tabA plainL 200 never domP (orElse domT (resOrc rTab) (hOrcP nrI HT)) 20
theorem orcQ_ok {HT : HTab} (hT : HTabOk Try.prog HT) : OracleOk Try.prog (orcQ HT) := inl_ok (orElse_ok (resOrc_ok rTab_ok) (hOrcP_ok hT)) ftab_ok tabA_ok plainL_ok mixed 20
end Go.Proofs.Ytnbfnoomhlamnaa.N2

/- Chapter 2: Of and Int; the law NatWrong: its formula. -/
namespace Go.Proofs.Ytnbfnoomhlamnaa.N2
open Go Go.Eng
theorem bv64 (n : Nat) (h : n < 18446744073709551616) : (BitVec.ofInt 64 (n : Int)).toNat = n := by
  simp only [BitVec.toNat_ofInt]; omega
theorem or64 {a b : Nat} (ha : a < 18446744073709551616) (hb : b < 18446744073709551616) : bitsI .or .u64 (a : Int) (b : Int) = ((a ||| b : Nat) : Int) := by
  unfold bitsI
  show wr .u64 (((BitVec.ofInt 64 (a : Int) ||| BitVec.ofInt 64 (b : Int)).toNat : Nat) : Int) = _
  rw [BitVec.toNat_or, bv64 a ha, bv64 b hb]
  have := Nat.or_lt_two_pow (n := 64) ha hb
  exact wrU (by omega) (by omega)
/-! ### Of, Int -/
def ofZ (n : Int) : Int := bif decide (n < 0) then 0 else n
def ofE (n : Int) : Int := bif decide (n < 0) then 21 else 0
theorem of_eval (n : Int) : evalFn Try.prog (orcP tabA plainL) noLoops 200 22 Try.f22 [.int .i64 n] [] (fun v _ => some v) =
    bif decide (n < 0) then some (.tuple [nW 0, .int .i64 21]) else some (.tuple [.agg [.int .u32 (wr .u32 n), .int .u32 (wr .u32 ((wr .u64 n).fdiv 4294967296)), .int .u32 0, .int .u32 0], .int .i64 0]) := by kernel_rfl
theorem of_p {n : Int} (h : -9223372036854775808 ≤ n ∧ n < 9223372036854775808) : FnPure Try.prog 22 [.int .i64 n] (.tuple [nW (ofZ n), .int .i64 (ofE n)]) := by
  refine fnPure_of_eval (N := 200) (orcP_ok tabA_ok plainL_ok) mixed Try.func22 (by kernel_rfl) noLoops_ok ?_ rfl rfl
  rw [of_eval]
  unfold ofZ ofE
  by_cases h0 : n < 0
  · rw [decide_eq_true h0]; rfl
  · rw [decide_eq_false h0, cond_false, cond_false, cond_false, wrU (x := n) (by omega) (by omega), Int.fdiv_eq_ediv_of_nonneg _ (by omega)]
    unfold nW
    have e0 : w0 n = wr .u32 n := rfl
    have e1 : w1 n = wr .u32 (n / 4294967296) := rfl
    have e2 : w2 n = 0 := by unfold w2; omega
    have e3 : w3 n = 0 := by unfold w3; omega
    rw [e0, e1, e2, e3]
def intZ (z : Int) : Int := bif decide (z < 9223372036854775808) then z else 0
def intE (z : Int) : Int := bif decide (z < 9223372036854775808) then 0 else 3
def lowI (a b : Int) : Int := bitsI .or .u64 (wr .u64 (wr .u64 b * 2 ^ shAmt .u64 32)) (wr .u64 a)
theorem int_eval (a b c d : Int) : evalFn Try.prog (orcP tabA plainL) noLoops 200 25 Try.f25 [.agg [.int .u32 a, .int .u32 b, .int .u32 c, .int .u32 d]] [] (fun v _ => some v) =
    bif !decide (d = 0) then some (.tuple [.int .i64 0, .int .i64 3]) else bif !decide (c = 0) then some (.tuple [.int .i64 0, .int .i64 3]) else bif decide (9223372036854775807 < lowI a b) then some (.tuple [.int .i64 0, .int .i64 3]) else some (.tuple [.int .i64 (wr .i64 (lowI a b)), .int .i64 0]) := by kernel_rfl
theorem int_p {a b c d : Int} (hx : inN a b c d = true) : FnPure Try.prog 25 [.agg [.int .u32 a, .int .u32 b, .int .u32 c, .int .u32 d]] (.tuple [.int .i64 (intZ (nval a b c d)), .int .i64 (intE (nval a b c d))]) := by
  refine fnPure_of_eval (N := 200) (orcP_ok tabA_ok plainL_ok) mixed Try.func25 (by kernel_rfl) noLoops_ok ?_ rfl rfl
  rw [int_eval]
  have hin := hx
  rw [inN_iff] at hx
  obtain ⟨xa, xb, xc, xd⟩ := hx
  have hl : lowI a b = b * 4294967296 + a := by
    obtain ⟨n, rfl⟩ : ∃ n : Nat, b = n := ⟨b.toNat, by omega⟩
    obtain ⟨m, rfl⟩ : ∃ m : Nat, a = m := ⟨a.toNat, by omega⟩
    unfold lowI
    have e1 : wr .u64 (wr .u64 (n : Int) * 2 ^ shAmt .u64 32) = ((2 ^ 32 * n : Nat) : Int) := by
      rw [show (2 : Int) ^ shAmt .u64 32 = 4294967296 from rfl, wrU (x := (n : Int)) (by omega) (by omega), wrU (by omega) (by omega)]; omega
    rw [e1, wrU (x := (m : Int)) (by omega) (by omega), or64 (by omega) (by omega), ← Nat.two_pow_add_eq_or_of_lt (i := 32) (b := m) (by omega) n]
    omega
  rw [hl]
  have hv : nval a b c d = b * 4294967296 + a + 18446744073709551616 * c + 79228162514264337593543950336 * d := by unfold nval; omega
  unfold intZ intE
  by_cases hd : d = 0
  · rw [decide_eq_true hd]
    by_cases hc : c = 0
    · rw [decide_eq_true hc]
      by_cases hb : 9223372036854775807 < b * 4294967296 + a
      · rw [decide_eq_true hb, decide_eq_false (show ¬ nval a b c d < 9223372036854775808 by omega)]; rfl
      · rw [decide_eq_false hb, decide_eq_true (show nval a b c d < 9223372036854775808 by omega), wr64 (by omega) (by omega), show b * 4294967296 + a = nval a b c d by omega]; rfl
    · rw [decide_eq_false hc, decide_eq_false (show ¬ nval a b c d < 9223372036854775808 by omega)]; rfl
  · rw [decide_eq_false hd, decide_eq_false (show ¬ nval a b c d < 9223372036854775808 by omega)]; rfl
end Go.Proofs.Ytnbfnoomhlamnaa.N2

/- Chapter 2, the reference: Add, Sub, Cmp, Int, Of: the same results as nat's own. -/
namespace Go.Proofs.Ytnbfnoomhlamnaa.N2
open Go Go.Eng
def hTabZ (N : NE) (Z E : Int → Int) (ok : List Int → Bool) (vl : List Int → Int) : HTab := addH 86 (gParts Z E ok vl) (hTabE N)
theorem hTabZ_ok : HTabOk Try.prog (hTabZ E0 ptZ ptE okP val) := hTabP_ok
def outN (Z E : Int → Int) (ok : List Int → Bool) (vl : List Int → Int) (l : List Int) : Option V := bif ok l then some (.tuple [nW (Z (vl l)), .int .i64 (E (vl l))]) else none
abbrev nat2 (a b c d e f g h : Int) : List V := [.agg [.int .u32 a, .int .u32 b, .int .u32 c, .int .u32 d], .agg [.int .u32 e, .int .u32 f, .int .u32 g, .int .u32 h]]
theorem radd_eval (N : NE) (Z E : Int → Int) (ok : List Int → Bool) (vl : List Int → Int) (a b c d e f g h : Int) : evalFn Try.prog (orcQ (hTabZ N Z E ok vl)) noLoops 200 61 Try.f61 (nat2 a b c d e f g h) [] (fun v _ => some v) =
    bif N.inn a b c d then bif N.inn e f g h then bif N.n.ok (N.dg a b c d) && N.n.ok (N.dg e f g h) then outN Z E ok vl (N.n.sum (N.dg a b c d) (N.dg e f g h)) else none else none else none := by kernel_rfl
theorem rcmp_eval (N : NE) (Z E : Int → Int) (ok : List Int → Bool) (vl : List Int → Int) (a b c d e f g h : Int) : evalFn Try.prog (orcQ (hTabZ N Z E ok vl)) noLoops 200 57 Try.f57 (nat2 a b c d e f g h) [] (fun v _ => some v) =
    bif N.inn a b c d then bif N.inn e f g h then bif N.n.ok (N.dg a b c d) && N.n.ok (N.dg e f g h) then bif N.n.lt (N.dg a b c d) (N.dg e f g h) then some (.int .i64 (-1)) else
      bif N.n.ok (N.dg e f g h) && N.n.ok (N.dg a b c d) then bif N.n.lt (N.dg e f g h) (N.dg a b c d) then some (.int .i64 1) else some (.int .i64 0) else none else none else none else none := by kernel_rfl
theorem rof_eval (N : NE) (Z E : Int → Int) (ok : List Int → Bool) (vl : List Int → Int) (n : Int) : evalFn Try.prog (orcQ (hTabZ N Z E ok vl)) noLoops 200 58 Try.f58 [.int .i64 n] [] (fun v _ => some v) =
    bif decide (n < 0) then some (.tuple [nW 0, .int .i64 21]) else bif N.n.okI n then outN Z E ok vl (N.n.D n) else none := by kernel_rfl
theorem out_D {n K : Nat} (h : n < 10 ^ K) (hK : K ≤ 999999) : outN ptZ ptE okP val (D n) = some (.tuple [nW (ptZ n), .int .i64 (ptE n)]) := by
  have := D_len_lt h
  unfold outN okP
  rw [isD_D, decide_eq_true (by omega), val_D]; rfl
theorem dg_nat {a b c d : Int} (h : inN a b c d = true) : ∃ n : Nat, nval a b c d = (n : Int) ∧ E0.dg a b c d = D n ∧ n < 340282366920938463463374607431768211456 ∧ E0.n.ok (D n) = true := by
  have hr := nval_range h
  refine ⟨(nval a b c d).toNat, by omega, rfl, by omega, ?_⟩
  exact okD_lt (by omega)
theorem radd_p {a b c d e f g h : Int} (hx : inN a b c d = true) (hy : inN e f g h = true) : FnPure Try.prog 61 (nat2 a b c d e f g h) (.tuple [nW (ptZ (nval a b c d + nval e f g h)), .int .i64 (ptE (nval a b c d + nval e f g h))]) := by
  refine fnPure_of_eval (N := 200) (orcQ_ok hTabZ_ok) mixed Try.func61 (by kernel_rfl) noLoops_ok ?_ rfl rfl
  rw [radd_eval, show E0.inn = inN from rfl, hx, hy]
  obtain ⟨m, hm, em, lm, km⟩ := dg_nat hx
  obtain ⟨n, hn, en, ln, kn⟩ := dg_nat hy
  rw [em, en, km, kn, hm, hn, show E0.n.sum = sumD from rfl]
  have hs : sumD (D m) (D n) = D (m + n) := by
    unfold sumD
    rw [val_D, val_D, show ((m : Int) + (n : Int)).toNat = m + n by omega]
  rw [hs, out_D (n := m + n) (K := 40) (Nat.lt_trans (show m + n < 2 * 340282366920938463463374607431768211456 by omega) (by decide)) (by decide), show ((m + n : Nat) : Int) = (m : Int) + (n : Int) by omega]
  rfl
theorem rcmp_p {a b c d e f g h : Int} (hx : inN a b c d = true) (hy : inN e f g h = true) : FnPure Try.prog 57 (nat2 a b c d e f g h) (.int .i64 (cmpI (nval a b c d) (nval e f g h))) := by
  refine fnPure_of_eval (N := 200) (orcQ_ok hTabZ_ok) mixed Try.func57 (by kernel_rfl) noLoops_ok ?_ rfl rfl
  rw [rcmp_eval, show E0.inn = inN from rfl, hx, hy]
  obtain ⟨m, hm, em, lm, km⟩ := dg_nat hx
  obtain ⟨n, hn, en, ln, kn⟩ := dg_nat hy
  rw [em, en, km, kn, hm, hn, show E0.n.lt = ltD from rfl]
  unfold ltD cmpI
  rw [val_D, val_D]
  cases decide ((m : Int) < (n : Int)) with
  | true => rfl
  | false => cases decide ((n : Int) < (m : Int)) <;> rfl
theorem rof_p {n : Int} (h : -9223372036854775808 ≤ n ∧ n < 9223372036854775808) : FnPure Try.prog 58 [.int .i64 n] (.tuple [nW (ofZ n), .int .i64 (ofE n)]) := by
  refine fnPure_of_eval (N := 200) (orcQ_ok hTabZ_ok) mixed Try.func58 (by kernel_rfl) noLoops_ok ?_ rfl rfl
  rw [rof_eval]
  unfold ofZ ofE
  by_cases h0 : n < 0
  · rw [decide_eq_true h0]; rfl
  · have k1 : E0.n.okI n = true := by rw [show E0.n.okI = okID from rfl]; unfold okID; rw [decide_eq_true (by omega)]
    rw [decide_eq_false h0, cond_false, k1, cond_true, show E0.n.D n = D n.toNat from rfl, out_D (n := n.toNat) (K := 19) (by omega) (by decide)]
    unfold ptZ ptE
    rw [decide_eq_true (show ((n.toNat : Nat) : Int) < 340282366920938463463374607431768211456 by omega), show ((n.toNat : Nat) : Int) = n by omega]; rfl
end Go.Proofs.Ytnbfnoomhlamnaa.N2
