/- Chapter 10: the law tells, walked. -/
import Derived.Test.YtojlmpcbplepcaaGreatYn
namespace Go.Proofs.YtojlmpcbplepcaaGreat
open Go Go.Eng
theorem tl_eval3 (T : NTl) (s : CD) (xs ac : List Int) (y x : Int) : evTl T s xs ac y x true false = tlAll T s xs ac y x true false := by kernel_rfl
end Go.Proofs.YtojlmpcbplepcaaGreat
