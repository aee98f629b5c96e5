/- Texts merged: NaRP, NaOf. -/
import Derived.Test.YtnbfnoomhlamnaaNaR14
import Derived.Test.YtnbfnoomhlamnaaNaNat8
/- Chapter 2, the reference: Read: the states of its loop. -/
namespace Go.Proofs.Ytnbfnoomhlamnaa.N2
open Go Go.Eng
def gParts (N : Int → Int) (E : Int → Int) (ok : List Int → Bool) (vl : List Int → Int) : List V → List Blk → Option (Bool × V × List Blk)
  | [.gs 0], [.rs _ 1 (.ints .i64 xs)] => some (ok xs, .tuple [nW (N (vl xs)), .int .i64 (E (vl xs))], [])
  | _, _ => none
def okP (xs : List Int) : Bool := isD xs && decide (xs.length ≤ 999999)
def hTabP : HTab := addH 86 (gParts ptZ ptE okP val) (hTabE E0)
theorem hTabP_ok : HTabOk Try.prog hTabP := by
  refine addH_ok ?_ hTabE_ok
  intro args h c v nb hq hc
  unfold gParts at hq
  split at hq
  · rename_i n1 xs
    cases hq; exact ⟨.of Try.func86 (by kernel_rfl), parts_fn n1 hc⟩
  · cases hq
def domP : FuncId → Bool := fun f => Nat.beq f 86 || domE f
noncomputable abbrev orcPt (LL : FuncId → Loops) : Oracle := inl Try.prog ftab tabA LL 200 never domP (orElse domT (resOrc rTab) (hOrcP nrI hTabP)) 20
theorem orcPt_ok {LL : FuncId → Loops} (hL : ∀ f, loopsOk Try.prog (LL f)) : OracleOk Try.prog (orcPt LL) := inl_ok (orElse_ok (resOrc_ok rTab_ok) (hOrcP_ok hTabP_ok)) ftab_ok tabA_ok hL mixed 20
noncomputable abbrev orcQ (HT : HTab) : Oracle := inl Try.prog ftab tabA plainL 200 never domP (orElse domT (resOrc rTab) (hOrcP nrI HT)) 20
theorem orcQ_ok {HT : HTab} (hT : HTabOk Try.prog HT) : OracleOk Try.prog (orcQ HT) := inl_ok (orElse_ok (resOrc_ok rTab_ok) (hOrcP_ok hT)) ftab_ok tabA_ok plainL_ok mixed 20
end Go.Proofs.Ytnbfnoomhlamnaa.N2

/- Chapter 2: Of and Int; the law NatWrong: its formula. -/
namespace Go.Proofs.Ytnbfnoomhlamnaa.N2
open Go Go.Eng
theorem bv64 (n : Nat) (h : n < 18446744073709551616) : (BitVec.ofInt 64 (n : Int)).toNat = n := by
  simp only [BitVec.toNat_ofInt]; omega
theorem or64 {a b : Nat} (ha : a < 18446744073709551616) (hb : b < 18446744073709551616) : bitsI .or .u64 (a : Int) (b : Int) = ((a ||| b : Nat) : Int) := by
  unfold bitsI
  show wr .u64 (((BitVec.ofInt 64 (a : Int) ||| BitVec.ofInt 64 (b : Int)).toNat : Nat) : Int) = _
  rw [BitVec.toNat_or, bv64 a ha, bv64 b hb]
  have := Nat.or_lt_two_pow (n := 64) ha hb
  exact wrU (by omega) (by omega)
/-! ### Of, Int -/
def ofZ (n : Int) : Int := bif decide (n < 0) then 0 else n
def ofE (n : Int) : Int := bif decide (n < 0) then 21 else 0
theorem of_eval (n : Int) : evalFn Try.prog (orcP tabA plainL) noLoops 200 22 Try.f22 [.int .i64 n] [] (fun v _ => some v) =
    bif decide (n < 0) then some (.tuple [nW 0, .int .i64 21]) else some (.tuple [.agg [.int .u32 (wr .u32 n), .int .u32 (wr .u32 ((wr .u64 n).fdiv 4294967296)), .int .u32 0, .int .u32 0], .int .i64 0]) := by kernel_rfl
theorem of_p {n : Int} (h : -9223372036854775808 ≤ n ∧ n < 9223372036854775808) : FnPure Try.prog 22 [.int .i64 n] (.tuple [nW (ofZ n), .int .i64 (ofE n)]) := by
  refine fnPure_of_eval (N := 200) (orcP_ok tabA_ok plainL_ok) mixed Try.func22 (by kernel_rfl) noLoops_ok ?_ rfl rfl
  rw [of_eval]
  unfold ofZ ofE
  by_cases h0 : n < 0
  · rw [decide_eq_true h0]; rfl
  · rw [decide_eq_false h0, cond_false, cond_false, cond_false, wrU (x := n) (by omega) (by omega), Int.fdiv_eq_ediv_of_nonneg _ (by omega)]
    unfold nW
    have e0 : w0 n = wr .u32 n := rfl
    have e1 : w1 n = wr .u32 (n / 4294967296) := rfl
    have e2 : w2 n = 0 := by unfold w2; omega
    have e3 : w3 n = 0 := by unfold w3; omega
    rw [e0, e1, e2, e3]
def intZ (z : Int) : Int := bif decide (z < 9223372036854775808) then z else 0
def intE (z : Int) : Int := bif decide (z < 9223372036854775808) then 0 else 3
def lowI (a b : Int) : Int := bitsI .or .u64 (wr .u64 (wr .u64 b * 2 ^ shAmt .u64 32)) (wr .u64 a)
theorem int_eval (a b c d : Int) : evalFn Try.prog (orcP tabA plainL) noLoops 200 25 Try.f25 [.agg [.int .u32 a, .int .u32 b, .int .u32 c, .int .u32 d]] [] (fun v _ => some v) =
    bif !decide (d = 0) then some (.tuple [.int .i64 0, .int .i64 3]) else bif !decide (c = 0) then some (.tuple [.int .i64 0, .int .i64 3]) else bif decide (9223372036854775807 < lowI a b) then some (.tuple [.int .i64 0, .int .i64 3]) else some (.tuple [.int .i64 (wr .i64 (lowI a b)), .int .i64 0]) := by kernel_rfl
theorem int_p {a b c d : Int} (hx : inN a b c d = true) : FnPure Try.prog 25 [.agg [.int .u32 a, .int .u32 b, .int .u32 c, .int .u32 d]] (.tuple [.int .i64 (intZ (nval a b c d)), .int .i64 (intE (nval a b c d))]) := by
  refine fnPure_of_eval (N := 200) (orcP_ok tabA_ok plainL_ok) mixed Try.func25 (by kernel_rfl) noLoops_ok ?_ rfl rfl
  rw [int_eval]
  have hin := hx
  rw [inN_iff] at hx
  obtain ⟨xa, xb, xc, xd⟩ := hx
  have hl : lowI a b = b * 4294967296 + a := by
    obtain ⟨n, rfl⟩ : ∃ n : Nat, b = n := ⟨b.toNat, by omega⟩
    obtain ⟨m, rfl⟩ : ∃ m : Nat, a = m := ⟨a.toNat, by omega⟩
    unfold lowI
    have e1 : wr .u64 (wr .u64 (n : Int) * 2 ^ shAmt .u64 32) = ((2 ^ 32 * n : Nat) : Int) := by
      rw [show (2 : Int) ^ shAmt .u64 32 = 4294967296 from rfl, wrU (x := (n : Int)) (by omega) (by omega), wrU (by omega) (by omega)]; omega
    rw [e1, wrU (x := (m : Int)) (by omega) (by omega), or64 (by omega) (by omega), ← Nat.two_pow_add_eq_or_of_lt (i := 32) (b := m) (by omega) n]
    omega
  rw [hl]
  have hv : nval a b c d = b * 4294967296 + a + 18446744073709551616 * c + 79228162514264337593543950336 * d := by unfold nval; omega
  unfold intZ intE
  by_cases hd : d = 0
  · rw [decide_eq_true hd]
    by_cases hc : c = 0
    · rw [decide_eq_true hc]
      by_cases hb : 9223372036854775807 < b * 4294967296 + a
      · rw [decide_eq_true hb, decide_eq_false (show ¬ nval a b c d < 9223372036854775808 by omega)]; rfl
      · rw [decide_eq_false hb, decide_eq_true (show nval a b c d < 9223372036854775808 by omega), wr64 (by omega) (by omega), show b * 4294967296 + a = nval a b c d by omega]; rfl
    · rw [decide_eq_false hc, decide_eq_false (show ¬ nval a b c d < 9223372036854775808 by omega)]; rfl
  · rw [decide_eq_false hd, decide_eq_false (show ¬ nval a b c d < 9223372036854775808 by omega)]; rfl
end Go.Proofs.Ytnbfnoomhlamnaa.N2
