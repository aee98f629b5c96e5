/- Chapter 10: Accept: its formula, for the partner's call. -/
import Derived.Test.YtojlmpcbplepcaaAc
namespace Go.Proofs.Ytojlmpcbplepcaa
open Go Go.Eng
theorem ac_k4 (N : NC) (xs ac : List Int) (s : CD) (x : Int) : ∀ t : Nat, t < 4 → rfV N t 4 0 12 Try.f12 xs ac s (((t + 2) % 4 : Nat) : Int) x = bif rfCd N xs ac s (((t + 2) % 4 : Nat) : Int) x 4 0 then acW N xs ac s t (acR N xs ac x 2 xs s t) else none
  | 0, _ => by kernel_rfl
  | 1, _ => by kernel_rfl
  | 2, _ => by kernel_rfl
  | 3, _ => by kernel_rfl
  | n + 4, h => absurd h (by omega)
end Go.Proofs.Ytojlmpcbplepcaa
