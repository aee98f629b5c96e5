/- Texts merged: NaRP, NaOf, NaRAdd. -/
import Derived.Test.YtnbfnoomhlamnaaGreatNaR14
import Derived.Test.YtnbfnoomhlamnaaGreatNaNat8
/- Chapter 2, the reference: Read: the states of its loop. -/
namespace Go.Proofs.YtnbfnoomhlamnaaGreat.N2
open Go Go.Eng
def gParts (N : Int → Int) (E : Int → Int) (ok : List Int → Bool) (vl : List Int → Int) : List V → List Blk → Option (Bool × V × List Blk)
  | [.gs 0], [.rs _ 1 (.ints .i64 xs)] => some (ok xs, .tuple [nW (N (vl xs)), .int .i64 (E (vl xs))], [])
  | _, _ => none
def okP (xs : List Int) : Bool := isD xs && decide (xs.length ≤ 999999)
def hTabP : HTab := addH 59 (gParts ptZ ptE okP val) (hTabE E0)
theorem hTabP_ok : HTabOk Tryz.prog hTabP := by
  refine addH_ok ?_ hTabE_ok
  intro args h c v nb hq hc
  unfold gParts at hq
  split at hq
  · rename_i n1 xs
    cases hq; exact ⟨.of Tryz.func59 (by kernel_rfl), parts_fn n1 hc⟩
  · cases hq
def domP : FuncId → Bool := fun f => Nat.beq f 59 || domE f
noncomputable abbrev orcPt (LL : FuncId → Loops) : Oracle := inl Tryz.prog ftab tabA LL 200 never domP (orElse domT (resOrc rTab) (hOrcP nrI hTabP)) 20
theorem orcPt_ok {LL : FuncId → Loops} (hL : ∀ f, loopsOk Tryz.prog (LL f)) : OracleOk Tryz.prog (orcPt LL) := inl_ok (orElse_ok (resOrc_ok rTab_ok) (hOrcP_ok hTabP_ok)) ftab_ok tabA_ok hL mixed 20
noncomputable abbrev orcQ (HT : HTab) : Oracle := inl Tryz.prog ftab tabA plainL 200 never domP (orElse domT (resOrc rTab) (hOrcP nrI HT)) 20
theorem orcQ_ok {HT : HTab} (hT : HTabOk Tryz.prog HT) : OracleOk Tryz.prog (orcQ HT) := inl_ok (orElse_ok (resOrc_ok rTab_ok) (hOrcP_ok hT)) ftab_ok tabA_ok plainL_ok mixed 20
end Go.Proofs.YtnbfnoomhlamnaaGreat.N2

/- Chapter 2: Of and Int; the law NatWrong: its formula. -/
namespace Go.Proofs.YtnbfnoomhlamnaaGreat.N2
open Go Go.Eng
theorem bv64 (n : Nat) (h : n < 18446744073709551616) : (BitVec.ofInt 64 (n : Int)).toNat = n := by
  simp only [BitVec.toNat_ofInt]; omega
theorem or64 {a b : Nat} (ha : a < 18446744073709551616) (hb : b < 18446744073709551616) : bitsI .or .u64 (a : Int) (b : Int) = ((a ||| b : Nat) : Int) := by
  unfold bitsI
  show wr .u64 (((BitVec.ofInt 64 (a : Int) ||| BitVec.ofInt 64 (b : Int)).toNat : Nat) : Int) = _
  rw [BitVec.toNat_or, bv64 a ha, bv64 b hb]
  have := Nat.or_lt_two_pow (n := 64) ha hb
  exact wrU (by omega) (by omega)
/-! ### Of, Int -/
def ofZ (n : Int) : Int := bif decide (n < 0) then 0 else n
def ofE (n : Int) : Int := bif decide (n < 0) then 21 else 0
def intZ (z : Int) : Int := bif decide (z < 9223372036854775808) then z else 0
def intE (z : Int) : Int := bif decide (z < 9223372036854775808) then 0 else 3
def lowI (a b : Int) : Int := bitsI .or .u64 (wr .u64 (wr .u64 b * 2 ^ shAmt .u64 32)) (wr .u64 a)
end Go.Proofs.YtnbfnoomhlamnaaGreat.N2

/- Chapter 2, the reference: Add, Sub, Cmp, Int, Of: the same results as nat's own. -/
namespace Go.Proofs.YtnbfnoomhlamnaaGreat.N2
open Go Go.Eng
def hTabZ (N : NE) (Z E : Int → Int) (ok : List Int → Bool) (vl : List Int → Int) : HTab := addH 59 (gParts Z E ok vl) (hTabE N)
theorem hTabZ_ok : HTabOk Tryz.prog (hTabZ E0 ptZ ptE okP val) := hTabP_ok
def outN (Z E : Int → Int) (ok : List Int → Bool) (vl : List Int → Int) (l : List Int) : Option V := bif ok l then some (.tuple [nW (Z (vl l)), .int .i64 (E (vl l))]) else none
abbrev nat2 (a b c d e f g h : Int) : List V := [.agg [.int .u32 a, .int .u32 b, .int .u32 c, .int .u32 d], .agg [.int .u32 e, .int .u32 f, .int .u32 g, .int .u32 h]]
theorem radd_eval (N : NE) (Z E : Int → Int) (ok : List Int → Bool) (vl : List Int → Int) (a b c d e f g h : Int) : evalFn Tryz.prog (orcQ (hTabZ N Z E ok vl)) noLoops 200 51 Tryz.f51 (nat2 a b c d e f g h) [] (fun v _ => some v) =
    bif N.inn a b c d then bif N.inn e f g h then bif N.n.ok (N.dg a b c d) && N.n.ok (N.dg e f g h) then outN Z E ok vl (N.n.sum (N.dg a b c d) (N.dg e f g h)) else none else none else none := by kernel_rfl
theorem rcmp_eval (N : NE) (Z E : Int → Int) (ok : List Int → Bool) (vl : List Int → Int) (a b c d e f g h : Int) : evalFn Tryz.prog (orcQ (hTabZ N Z E ok vl)) noLoops 200 47 Tryz.f47 (nat2 a b c d e f g h) [] (fun v _ => some v) =
    bif N.inn a b c d then bif N.inn e f g h then bif N.n.ok (N.dg a b c d) && N.n.ok (N.dg e f g h) then bif N.n.lt (N.dg a b c d) (N.dg e f g h) then some (.int .i64 (-1)) else
      bif N.n.ok (N.dg e f g h) && N.n.ok (N.dg a b c d) then bif N.n.lt (N.dg e f g h) (N.dg a b c d) then some (.int .i64 1) else some (.int .i64 0) else none else none else none else none := by kernel_rfl
theorem rof_eval (N : NE) (Z E : Int → Int) (ok : List Int → Bool) (vl : List Int → Int) (n : Int) : evalFn Tryz.prog (orcQ (hTabZ N Z E ok vl)) noLoops 200 48 Tryz.f48 [.int .i64 n] [] (fun v _ => some v) =
    bif decide (n < 0) then some (.tuple [nW 0, .int .i64 21]) else bif N.n.okI n then outN Z E ok vl (N.n.D n) else none := by kernel_rfl
theorem out_D {n K : Nat} (h : n < 10 ^ K) (hK : K ≤ 999999) : outN ptZ ptE okP val (D n) = some (.tuple [nW (ptZ n), .int .i64 (ptE n)]) := by
  have := D_len_lt h
  unfold outN okP
  rw [isD_D, decide_eq_true (by omega), val_D]; rfl
theorem dg_nat {a b c d : Int} (h : inN a b c d = true) : ∃ n : Nat, nval a b c d = (n : Int) ∧ E0.dg a b c d = D n ∧ n < 340282366920938463463374607431768211456 ∧ E0.n.ok (D n) = true := by
  have hr := nval_range h
  refine ⟨(nval a b c d).toNat, by omega, rfl, by omega, ?_⟩
  exact okD_lt (by omega)
theorem radd_p {a b c d e f g h : Int} (hx : inN a b c d = true) (hy : inN e f g h = true) : FnPure Tryz.prog 51 (nat2 a b c d e f g h) (.tuple [nW (ptZ (nval a b c d + nval e f g h)), .int .i64 (ptE (nval a b c d + nval e f g h))]) := by
  refine fnPure_of_eval (N := 200) (orcQ_ok hTabZ_ok) mixed Tryz.func51 (by kernel_rfl) noLoops_ok ?_ rfl rfl
  rw [radd_eval, show E0.inn = inN from rfl, hx, hy]
  obtain ⟨m, hm, em, lm, km⟩ := dg_nat hx
  obtain ⟨n, hn, en, ln, kn⟩ := dg_nat hy
  rw [em, en, km, kn, hm, hn, show E0.n.sum = sumD from rfl]
  have hs : sumD (D m) (D n) = D (m + n) := by
    unfold sumD
    rw [val_D, val_D, show ((m : Int) + (n : Int)).toNat = m + n by omega]
  rw [hs, out_D (n := m + n) (K := 40) (Nat.lt_trans (show m + n < 2 * 340282366920938463463374607431768211456 by omega) (by decide)) (by decide), show ((m + n : Nat) : Int) = (m : Int) + (n : Int) by omega]
  rfl
theorem rcmp_p {a b c d e f g h : Int} (hx : inN a b c d = true) (hy : inN e f g h = true) : FnPure Tryz.prog 47 (nat2 a b c d e f g h) (.int .i64 (cmpI (nval a b c d) (nval e f g h))) := by
  refine fnPure_of_eval (N := 200) (orcQ_ok hTabZ_ok) mixed Tryz.func47 (by kernel_rfl) noLoops_ok ?_ rfl rfl
  rw [rcmp_eval, show E0.inn = inN from rfl, hx, hy]
  obtain ⟨m, hm, em, lm, km⟩ := dg_nat hx
  obtain ⟨n, hn, en, ln, kn⟩ := dg_nat hy
  rw [em, en, km, kn, hm, hn, show E0.n.lt = ltD from rfl]
  unfold ltD cmpI
  rw [val_D, val_D]
  cases decide ((m : Int) < (n : Int)) with
  | true => rfl
  | false => cases decide ((n : Int) < (m : Int)) <;> rfl
theorem rof_p {n : Int} (h : -9223372036854775808 ≤ n ∧ n < 9223372036854775808) : FnPure Tryz.prog 48 [.int .i64 n] (.tuple [nW (ofZ n), .int .i64 (ofE n)]) := by
  refine fnPure_of_eval (N := 200) (orcQ_ok hTabZ_ok) mixed Tryz.func48 (by kernel_rfl) noLoops_ok ?_ rfl rfl
  rw [rof_eval]
  unfold ofZ ofE
  by_cases h0 : n < 0
  · rw [decide_eq_true h0]; rfl
  · have k1 : E0.n.okI n = true := by rw [show E0.n.okI = okID from rfl]; unfold okID; rw [decide_eq_true (by omega)]
    rw [decide_eq_false h0, cond_false, k1, cond_true, show E0.n.D n = D n.toNat from rfl, out_D (n := n.toNat) (K := 19) (by omega) (by decide)]
    unfold ptZ ptE
    rw [decide_eq_true (show ((n.toNat : Nat) : Int) < 340282366920938463463374607431768211456 by omega), show ((n.toNat : Nat) : Int) = n by omega]; rfl
end Go.Proofs.YtnbfnoomhlamnaaGreat.N2
