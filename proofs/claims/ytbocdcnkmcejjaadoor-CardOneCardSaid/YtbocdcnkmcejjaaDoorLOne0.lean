/- Chapter 4: CardOne at a half of the numbers, one by one. -/
import Derived.Test.YtbocdcnkmcejjaaDoorLOneD
import Derived.Test.YtbocdcnkmcejjaaDoorEngPoint
namespace Go.Proofs.YtbocdcnkmcejjaaDoor
open Go Go.Eng
theorem one0 : allN 16 (fun c => runOne (c + 0)) = true := by kernel_rfl
theorem one1 : allN 16 (fun c => runOne (c + 16)) = true := by kernel_rfl
theorem one2 : allN 16 (fun c => runOne (c + 32)) = true := by kernel_rfl
theorem one3 : allN 16 (fun c => runOne (c + 48)) = true := by kernel_rfl
theorem one4 : allN 16 (fun c => runOne (c + 64)) = true := by kernel_rfl
theorem one5 : allN 16 (fun c => runOne (c + 80)) = true := by kernel_rfl
theorem one6 : allN 16 (fun c => runOne (c + 96)) = true := by kernel_rfl
theorem one7 : allN 16 (fun c => runOne (c + 112)) = true := by kernel_rfl
end Go.Proofs.YtbocdcnkmcejjaaDoor
