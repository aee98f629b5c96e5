/- Chapter 3: what Next answers, for all states. -/
import Derived.Test.YtnbfnoomhlamnaaJump
namespace Go.Proofs.Ytnbfnoomhlamnaa
open Go Go.Eng
def nextS (s : Int) : Int := bif rightB s then mulP s 48271 else 0
def nextV (s : Int) : Int := bif rightB s then wr .i64 (mulP s 48271 - 1) else 0
theorem next_all (s : Int) : evalAt tab2 plainL 14 Try.f14 [.int .i64 s] = bif !rightB s then some err3 else some (.tuple [.int .i64 (mulP s 48271), .int .i64 (wr .i64 (mulP s 48271 - 1)), .int .i64 0]) := by kernel_rfl
theorem next_pure (s : Int) : FnPure Try.prog 14 [.int .i64 s] (.tuple [.int .i64 (nextS s), .int .i64 (nextV s), .int .i64 (errI (rightB s))]) := by
  refine pure_at tab2_ok plainL_ok Try.func14 (by kernel_rfl) ?_ rfl rfl
  rw [next_all]
  cases h : rightB s with
  | true => simp only [Bool.not_true, cond_false, cond_true, nextS, nextV, errI, h]
  | false => simp only [Bool.not_false, cond_true, nextS, nextV, errI, h, cond_false]; rfl
def gJump : List V → Option (Bool × V)
  | [.int .i64 s, .int .i64 k] => some (true, .tuple [.int .i64 (jumpI s k), .int .i64 (errI (rightB s))])
  | _ => none
def gNext : List V → Option (Bool × V)
  | [.int .i64 s] => some (true, .tuple [.int .i64 (nextS s), .int .i64 (nextV s), .int .i64 (errI (rightB s))])
  | _ => none
def tab3 : PTab := addTab 13 gJump (addTab 14 gNext tab2)
theorem tab3_ok : PTabOk Try.prog tab3 := by
  refine addTab_ok ?_ (addTab_ok ?_ tab2_ok)
  · intro args c v h _
    unfold gJump at h
    split at h
    · cases h; exact jump_pure _ _
    · cases h
  · intro args c v h _
    unfold gNext at h
    split at h
    · cases h; exact next_pure _
    · cases h
end Go.Proofs.Ytnbfnoomhlamnaa
