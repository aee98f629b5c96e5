/- Chapter 3: the search over intervals, part 2. -/
import Derived.Test.YtnbfnoomhlamnaaUni0
namespace Go.Proofs.Ytnbfnoomhlamnaa
open Go
theorem uni_9 : uGo uE 536870916 596523239 = true := by kernel_rfl
theorem uni_10 : uGo uE 596523240 656175563 = true := by kernel_rfl
theorem uni_11 : uGo uE 656175564 715827887 = true := by kernel_rfl
theorem uni_12 : uGo uE 715827888 775480211 = true := by kernel_rfl
theorem uni_13 : uGo uE 775480212 835132535 = true := by kernel_rfl
theorem uni_14 : uGo uE 835132536 894784859 = true := by kernel_rfl
theorem uni_15 : uGo uE 894784860 954437183 = true := by kernel_rfl
theorem uni_16 : uGo uE 954437184 1014089507 = true := by kernel_rfl
theorem uni_17 : uGo uE 1014089508 1073741831 = true := by kernel_rfl
end Go.Proofs.Ytnbfnoomhlamnaa
