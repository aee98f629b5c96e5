/- Chapter 3: the search over intervals, part 4. -/
import Derived.Test.YtnbfnoomhlamnaaUni0
namespace Go.Proofs.Ytnbfnoomhlamnaa
open Go
theorem uni_27 : uGo uE 1610612748 1670265071 = true := by kernel_rfl
theorem uni_28 : uGo uE 1670265072 1729917395 = true := by kernel_rfl
theorem uni_29 : uGo uE 1729917396 1789569719 = true := by kernel_rfl
theorem uni_30 : uGo uE 1789569720 1849222043 = true := by kernel_rfl
theorem uni_31 : uGo uE 1849222044 1908874367 = true := by kernel_rfl
theorem uni_32 : uGo uE 1908874368 1968526691 = true := by kernel_rfl
theorem uni_33 : uGo uE 1968526692 2028179015 = true := by kernel_rfl
theorem uni_34 : uGo uE 2028179016 2087831339 = true := by kernel_rfl
theorem uni_35 : uGo uE 2087831340 2147483663 = true := by kernel_rfl
end Go.Proofs.Ytnbfnoomhlamnaa
