/- Chapter 2, the reference: Read: the states of its loop. -/
import Derived.Test.YtnbfnoomhlamnaaNaR14
import Derived.Test.YtnbfnoomhlamnaaNaNat8
namespace Go.Proofs.Ytnbfnoomhlamnaa.N2
open Go Go.Eng
def gParts (N : Int → Int) (E : Int → Int) (ok : List Int → Bool) (vl : List Int → Int) : List V → List Blk → Option (Bool × V × List Blk)
  | [.gs 0], [.rs _ 1 (.ints .i64 xs)] => some (ok xs, .tuple [nW (N (vl xs)), .int .i64 (E (vl xs))], [])
  | _, _ => none
def okP (xs : List Int) : Bool := isD xs && decide (xs.length ≤ 999999)
def hTabP : HTab := addH 86 (gParts ptZ ptE okP val) (hTabE E0)
theorem hTabP_ok : HTabOk Try.prog hTabP := by
  refine addH_ok ?_ hTabE_ok
  intro args h c v nb hq hc
  unfold gParts at hq
  split at hq
  · rename_i n1 xs
    cases hq; exact ⟨.of Try.func86 (by kernel_rfl), parts_fn n1 hc⟩
  · cases hq
def domP : FuncId → Bool := fun f => Nat.beq f 86 || domE f
noncomputable abbrev orcPt (LL : FuncId → Loops) : Oracle := inl Try.prog ftab tabA LL 200 never domP (orElse domT (resOrc rTab) (hOrcP nrI hTabP)) 20
theorem orcPt_ok {LL : FuncId → Loops} (hL : ∀ f, loopsOk Try.prog (LL f)) : OracleOk Try.prog (orcPt LL) := inl_ok (orElse_ok (resOrc_ok rTab_ok) (hOrcP_ok hTabP_ok)) ftab_ok tabA_ok hL mixed 20
noncomputable abbrev orcQ (HT : HTab) : Oracle := inl Try.prog ftab tabA plainL 200 never domP (orElse domT (resOrc rTab) (hOrcP nrI HT)) 20
theorem orcQ_ok {HT : HTab} (hT : HTabOk Try.prog HT) : OracleOk Try.prog (orcQ HT) := inl_ok (orElse_ok (resOrc_ok rTab_ok) (hOrcP_ok hT)) ftab_ok tabA_ok plainL_ok mixed 20
end Go.Proofs.Ytnbfnoomhlamnaa.N2
