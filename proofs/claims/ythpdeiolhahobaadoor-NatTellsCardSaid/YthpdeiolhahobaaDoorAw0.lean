/- Chapter 2: the oracle with all that is known. -/
import Derived.Test.YthpdeiolhahobaaDoorNat8
namespace Go.Proofs.YthpdeiolhahobaaDoor
open Go Go.Eng
noncomputable abbrev orcM (T : PTab) (LL : FuncId → Loops) : Oracle := inl Tryd.prog ftab T LL 200 never hDomM (hOrc hTabM) 20
theorem orcM_ok {T : PTab} (hT : PTabOk Tryd.prog T) {LL : FuncId → Loops} (hL : ∀ f, loopsOk Tryd.prog (LL f)) : OracleOk Tryd.prog (orcM T LL) := inl_ok (hOrc_ok hTabM_ok) ftab_ok hT hL mixed 20
end Go.Proofs.YthpdeiolhahobaaDoor
