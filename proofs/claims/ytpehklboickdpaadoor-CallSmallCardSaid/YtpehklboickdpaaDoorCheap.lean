/- Chapter 8: Cheapest and Jump of two numbers. -/
import Derived.Test.YtpehklboickdpaaDoorLOrder
namespace Go.Proofs.YtpehklboickdpaaDoor
open Go Go.Eng
def chV (c d : Int) : Int := bif !decide (c ≤ 37) then 0 else bif decide (5 ≤ d) then 0 else bif decide (c < bidV 1 d) then bidV 1 d else bif decide (c < bidV 2 d) then bidV 2 d else bif decide (c < bidV 3 d) then bidV 3 d else bif decide (c < bidV 4 d) then bidV 4 d else bif decide (c < bidV 5 d) then bidV 5 d else bif decide (c < bidV 6 d) then bidV 6 d else bif decide (c < bidV 7 d) then bidV 7 d else 0
def chE (c d : Int) : Int := bif !decide (c ≤ 37) then 80 else bif decide (5 ≤ d) then 2 else bif decide (c < bidV 1 d) then 0 else bif decide (c < bidV 2 d) then 0 else bif decide (c < bidV 3 d) then 0 else bif decide (c < bidV 4 d) then 0 else bif decide (c < bidV 5 d) then 0 else bif decide (c < bidV 6 d) then 0 else bif decide (c < bidV 7 d) then 0 else 6
theorem ch_eval (c d : Int) : evalP tabP 14 Tryd.f14 [.int .u8 c, .int .u8 d] = bif !decide (c ≤ 37) then some (.tuple [.int .u8 0, .int .i64 80]) else bif decide (5 ≤ d) then some (.tuple [.int .u8 0, .int .i64 2]) else bif decide (c < bidV 1 d) then some (.tuple [.int .u8 (bidV 1 d), .int .i64 0]) else bif decide (c < bidV 2 d) then some (.tuple [.int .u8 (bidV 2 d), .int .i64 0]) else bif decide (c < bidV 3 d) then some (.tuple [.int .u8 (bidV 3 d), .int .i64 0]) else bif decide (c < bidV 4 d) then some (.tuple [.int .u8 (bidV 4 d), .int .i64 0]) else bif decide (c < bidV 5 d) then some (.tuple [.int .u8 (bidV 5 d), .int .i64 0]) else bif decide (c < bidV 6 d) then some (.tuple [.int .u8 (bidV 6 d), .int .i64 0]) else bif decide (c < bidV 7 d) then some (.tuple [.int .u8 (bidV 7 d), .int .i64 0]) else some (.tuple [.int .u8 0, .int .i64 6]) := by kernel_rfl
theorem ch_pure (c d : Int) : FnPure Tryd.prog 14 [.int .u8 c, .int .u8 d] (.tuple [.int .u8 (chV c d), .int .i64 (chE c d)]) := by
  refine pure_at tabP_ok Tryd.func14 (by kernel_rfl) ?_ rfl rfl
  rw [ch_eval]
  unfold chV chE
  cases decide (c ≤ 37) with
  | false => rfl
  | true => cases decide (5 ≤ d) with
    | true => rfl
    | false => cases decide (c < bidV 1 d) with
    | true => rfl
    | false => cases decide (c < bidV 2 d) with
    | true => rfl
    | false => cases decide (c < bidV 3 d) with
    | true => rfl
    | false => cases decide (c < bidV 4 d) with
    | true => rfl
    | false => cases decide (c < bidV 5 d) with
    | true => rfl
    | false => cases decide (c < bidV 6 d) with
    | true => rfl
    | false => cases decide (c < bidV 7 d) with
    | true => rfl
    | false => rfl
def gCh : List V → Option (Bool × V)
  | [.int .u8 c, .int .u8 d] => some (true, .tuple [.int .u8 (chV c d), .int .i64 (chE c d)])
  | _ => none
def tabC : PTab := addTab 14 gCh tabP
theorem tabC_ok : PTabOk Tryd.prog tabC := by
  refine addTab_ok ?_ tabP_ok
  intro args c v h _
  unfold gCh at h
  split at h
  · cases h; exact ch_pure _ _
  · cases h
def juV (c d : Int) : Int := bif !decide (c ≤ 37) then 0 else bif !isB d then 0 else bif decide (d ≤ c) then 0 else wr .i64 (wr .i64 (pl d) - wr .i64 (pl (chV c (pd d))))
def juE (c d : Int) : Int := bif !decide (c ≤ 37) then 80 else bif !isB d then 80 else bif decide (d ≤ c) then 6 else 0
theorem ju_eval (c d : Int) : evalP tabC 15 Tryd.f15 [.int .u8 c, .int .u8 d] = bif !decide (c ≤ 37) then some (.tuple [.int .i64 0, .int .i64 80]) else bif !isB d then some (.tuple [.int .i64 0, .int .i64 80]) else
    bif decide (d ≤ c) then some (.tuple [.int .i64 0, .int .i64 6]) else some (.tuple [.int .i64 (wr .i64 (wr .i64 (pl d) - wr .i64 (pl (chV c (pd d))))), .int .i64 0]) := by kernel_rfl
theorem ju_pure (c d : Int) : FnPure Tryd.prog 15 [.int .u8 c, .int .u8 d] (.tuple [.int .i64 (juV c d), .int .i64 (juE c d)]) := by
  refine pure_at tabC_ok Tryd.func15 (by kernel_rfl) ?_ rfl rfl
  rw [ju_eval]
  unfold juV juE
  cases decide (c ≤ 37) <;> cases isB d <;> cases decide (d ≤ c) <;> rfl
def gJu : List V → Option (Bool × V)
  | [.int .u8 c, .int .u8 d] => some (true, .tuple [.int .i64 (juV c d), .int .i64 (juE c d)])
  | _ => none
def tabJ : PTab := addTab 15 gJu tabC
theorem tabJ_ok : PTabOk Tryd.prog tabJ := by
  refine addTab_ok ?_ tabC_ok
  intro args c v h _
  unfold gJu at h
  split at h
  · cases h; exact ju_pure _ _
  · cases h
end Go.Proofs.YtpehklboickdpaaDoor
