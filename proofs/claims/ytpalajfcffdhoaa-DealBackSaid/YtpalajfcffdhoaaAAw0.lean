/- Chapter 2: the oracle with all that is known. -/
import Derived.Test.YtpalajfcffdhoaaANat8
namespace Go.Proofs.Ytpalajfcffdhoaa.N2
open Go Go.Eng
noncomputable abbrev orcM (T : PTab) (LL : FuncId → Loops) : Oracle := inl Try.prog ftab T LL 200 never hDomM (hOrc hTabM) 20
theorem orcM_ok {T : PTab} (hT : PTabOk Try.prog T) {LL : FuncId → Loops} (hL : ∀ f, loopsOk Try.prog (LL f)) : OracleOk Try.prog (orcM T LL) := inl_ok (hOrc_ok hTabM_ok) ftab_ok hT hL mixed 20
end Go.Proofs.Ytpalajfcffdhoaa.N2
