/- Chapter 10: the reference's Do, walked: errors. -/
import Derived.Test.YtojlmpcbplepcaaGreatXr0
namespace Go.Proofs.YtojlmpcbplepcaaGreat
open Go Go.Eng
set_option maxRecDepth 10000
theorem e75e (N : NW) (s : CD) (xs ac : List Int) (x : Int) : evalFn Tryz.prog (orcDo N d75 (h75 N 0)) noLoops 100 30 Tryz.f30 [.agg (s.vs (.gs 0) (.gs 1)), .int .u8 x] (crsH false false xs ac) (ansT crsE 2) = all75 N 0 s xs ac x (badE xs ac) noA := by kernel_rfl
theorem e75k (N : NW) (s : CD) (xs ac : List Int) (x : Int) : ∀ k : Nat, k < 4 → evalFn Tryz.prog (orcDo N d75 (h75 N k)) noLoops 100 30 Tryz.f30 [.agg (s.vs (.gs 0) (.gs 1)), .int .u8 x] (crsH false false xs ac) (ansT crsK2 2) = all75 N k s xs ac x noA (newE xs ac (xs ++ [x]))
  | 0, _ => by kernel_rfl
  | 1, _ => by kernel_rfl
  | 2, _ => by kernel_rfl
  | 3, _ => by kernel_rfl
  | n + 4, h => absurd h (by omega)
end Go.Proofs.YtojlmpcbplepcaaGreat
