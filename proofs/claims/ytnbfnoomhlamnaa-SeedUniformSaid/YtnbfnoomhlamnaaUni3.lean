/- Chapter 3: the search over intervals, part 3. -/
import Derived.Test.YtnbfnoomhlamnaaUni0
namespace Go.Proofs.Ytnbfnoomhlamnaa
open Go
theorem uni_18 : uGo uE 1073741832 1133394155 = true := by kernel_rfl
theorem uni_19 : uGo uE 1133394156 1193046479 = true := by kernel_rfl
theorem uni_20 : uGo uE 1193046480 1252698803 = true := by kernel_rfl
theorem uni_21 : uGo uE 1252698804 1312351127 = true := by kernel_rfl
theorem uni_22 : uGo uE 1312351128 1372003451 = true := by kernel_rfl
theorem uni_23 : uGo uE 1372003452 1431655775 = true := by kernel_rfl
theorem uni_24 : uGo uE 1431655776 1491308099 = true := by kernel_rfl
theorem uni_25 : uGo uE 1491308100 1550960423 = true := by kernel_rfl
theorem uni_26 : uGo uE 1550960424 1610612747 = true := by kernel_rfl
end Go.Proofs.Ytnbfnoomhlamnaa
