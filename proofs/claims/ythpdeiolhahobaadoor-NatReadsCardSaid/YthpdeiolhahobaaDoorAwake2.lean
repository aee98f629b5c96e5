/- Chapter 2: the examples in the table. -/
import Derived.Test.YthpdeiolhahobaaDoorAwake
namespace Go.Proofs.YthpdeiolhahobaaDoor
open Go Go.Eng
theorem awake_eval : evalFn Tryd.prog (orcM tabX plainL) noLoops 200 13 Tryd.f13 [] [] (fun v _ => some v) = some (.bool true) := by kernel_rfl
theorem awake_p : FnPure Tryd.prog 13 [] (.bool true) := fnPure_of_eval (N := 200) (orcM_ok tabX_ok plainL_ok) mixed Tryd.func13 (by kernel_rfl) noLoops_ok awake_eval rfl rfl
def gAwake : List V → Option (Bool × V)
  | [] => some (true, .bool true)
  | _ => none
def tabG : PTab := addTab 13 gAwake tabT
theorem tabG_ok : PTabOk Tryd.prog tabG := by
  refine addTab_ok ?_ tabT_ok
  intro args c v h _
  unfold gAwake at h
  split at h
  · cases h; exact awake_p
  · cases h
end Go.Proofs.YthpdeiolhahobaaDoor
