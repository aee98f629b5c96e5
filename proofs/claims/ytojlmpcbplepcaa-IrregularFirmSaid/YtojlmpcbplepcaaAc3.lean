/- Chapter 10: Accept: its formula, for the call of the seat on the right. -/
import Derived.Test.YtojlmpcbplepcaaAc
namespace Go.Proofs.Ytojlmpcbplepcaa
open Go Go.Eng
theorem ac_k5 (N : NC) (xs ac : List Int) (s : CD) (x : Int) : ∀ t : Nat, t < 4 → rfV N t 5 0 12 Try.f12 xs ac s (((t + 3) % 4 : Nat) : Int) x = bif rfCd N xs ac s (((t + 3) % 4 : Nat) : Int) x 5 0 then acW N xs ac s t (acR N xs ac x 3 xs s t) else none
  | 0, _ => by kernel_rfl
  | 1, _ => by kernel_rfl
  | 2, _ => by kernel_rfl
  | 3, _ => by kernel_rfl
  | n + 4, h => absurd h (by omega)
end Go.Proofs.Ytojlmpcbplepcaa
