/- Chapter 4: CardOne at a half of the numbers, one by one. -/
import Derived.Test.YtbocdcnkmcejjaaDoorLOneD
import Derived.Test.YtbocdcnkmcejjaaDoorEngPoint
namespace Go.Proofs.YtbocdcnkmcejjaaDoor
open Go Go.Eng
theorem one8 : allN 16 (fun c => runOne (c + 128)) = true := by kernel_rfl
theorem one9 : allN 16 (fun c => runOne (c + 144)) = true := by kernel_rfl
theorem one10 : allN 16 (fun c => runOne (c + 160)) = true := by kernel_rfl
theorem one11 : allN 16 (fun c => runOne (c + 176)) = true := by kernel_rfl
theorem one12 : allN 16 (fun c => runOne (c + 192)) = true := by kernel_rfl
theorem one13 : allN 16 (fun c => runOne (c + 208)) = true := by kernel_rfl
theorem one14 : allN 16 (fun c => runOne (c + 224)) = true := by kernel_rfl
theorem one15 : allN 16 (fun c => runOne (c + 240)) = true := by kernel_rfl
end Go.Proofs.YtbocdcnkmcejjaaDoor
