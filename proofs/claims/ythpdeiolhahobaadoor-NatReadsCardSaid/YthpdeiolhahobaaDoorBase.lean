/- Chapter 2: the program, and what of the library is known by its contract. -/
import Derived.Test.YthpdeiolhahobaaDoorEng3
import Derived.Test.YthpdeiolhahobaaDoorEng4
import Derived.Test.YthpdeiolhahobaaDoorShelf
import Derived.Test.YthpdeiolhahobaaDoorW
import Derived.Test.YthpdeiolhahobaaDoorRows
namespace Go.Proofs.YthpdeiolhahobaaDoor
open Go Go.Eng

noncomputable def ftab : FTab := fun i => Tryd.prog.funcs[i]?
theorem ftab_ok : FTabOk Tryd.prog ftab := fun _ _ h => h
theorem mixed : Tryd.prog.follows .mixedOrders = true := by kernel_rfl
def never : FuncId → Bool := fun _ => false
def plainL : FuncId → Loops := fun _ => noLoops
theorem plainL_ok : ∀ f, loopsOk Tryd.prog (plainL f) := fun _ => noLoops_ok
def lenI (x : Int) : Int := Lib.bitLen x.toNat
def gLen : List V → Option (Bool × V)
  | [.int .u32 x] => some (inW x, .int .i64 (lenI x))
  | _ => none
def tabS : PTab := addTab 77 gLen emptyTab
theorem tabS_ok : PTabOk Tryd.prog tabS := by
  refine addTab_ok ?_ emptyTab_ok
  intro args c v h hc
  unfold gLen at h
  split at h
  · cases h
    rw [inW_iff] at hc
    exact pure_of_same (.of Tryd.func77 (by kernel_rfl)) rfl rfl fun w => Tryd.bits_Len32 _ w hc.1 (by omega)
  · cases h
noncomputable abbrev orcP (T : PTab) (LL : FuncId → Loops) : Oracle := inl Tryd.prog ftab T LL 200 never never (oracleOf emptyTab) 20
theorem orcP_ok {T : PTab} (hT : PTabOk Tryd.prog T) {LL : FuncId → Loops} (hL : ∀ f, loopsOk Tryd.prog (LL f)) : OracleOk Tryd.prog (orcP T LL) := inl_ok (oracleOf_ok emptyTab_ok) ftab_ok hT hL mixed 20
end Go.Proofs.YthpdeiolhahobaaDoor
