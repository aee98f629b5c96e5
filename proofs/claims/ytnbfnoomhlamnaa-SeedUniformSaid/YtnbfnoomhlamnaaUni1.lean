/- Chapter 3: the search over intervals, part 1. -/
import Derived.Test.YtnbfnoomhlamnaaUni0
namespace Go.Proofs.Ytnbfnoomhlamnaa
open Go
theorem uni_0 : uGo uE 0 59652323 = true := by kernel_rfl
theorem uni_1 : uGo uE 59652324 119304647 = true := by kernel_rfl
theorem uni_2 : uGo uE 119304648 178956971 = true := by kernel_rfl
theorem uni_3 : uGo uE 178956972 238609295 = true := by kernel_rfl
theorem uni_4 : uGo uE 238609296 298261619 = true := by kernel_rfl
theorem uni_5 : uGo uE 298261620 357913943 = true := by kernel_rfl
theorem uni_6 : uGo uE 357913944 417566267 = true := by kernel_rfl
theorem uni_7 : uGo uE 417566268 477218591 = true := by kernel_rfl
theorem uni_8 : uGo uE 477218592 536870915 = true := by kernel_rfl
end Go.Proofs.Ytnbfnoomhlamnaa
