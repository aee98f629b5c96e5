/- Chapter 10: Bid, Cheapest. -/
import Derived.Test.YtojlmpcbplepcaaRi2
namespace Go.Proofs.Ytojlmpcbplepcaa
open Go Go.Eng
def badB (l d : Int) : Bool := bif decide (l < 1) then true else bif decide (7 < l) then true else decide (5 ≤ d)
def bidV (l d : Int) : Int := bif badB l d then 0 else wr .u8 (wr .u8 (3 + wr .u8 (5 * wr .u8 (l - 1))) + d)
def bidE (l d : Int) : Int := bif badB l d then 2 else 0
theorem bid_eval (l d : Int) : evalP emptyTab 98 Try.f98 [.int .u8 l, .int .u8 d] = bif decide (l < 1) then some (.tuple [.int .u8 0, .int .i64 2]) else bif decide (7 < l) then some (.tuple [.int .u8 0, .int .i64 2]) else
    bif decide (5 ≤ d) then some (.tuple [.int .u8 0, .int .i64 2]) else some (.tuple [.int .u8 (wr .u8 (wr .u8 (3 + wr .u8 (5 * wr .u8 (l - 1))) + d)), .int .i64 0]) := by kernel_rfl
theorem bid_pure (l d : Int) : FnPure Try.prog 98 [.int .u8 l, .int .u8 d] (.tuple [.int .u8 (bidV l d), .int .i64 (bidE l d)]) := by
  refine pure_at emptyTab_ok Try.func98 (by kernel_rfl) ?_ rfl rfl
  rw [bid_eval]
  unfold bidV bidE badB
  cases decide (l < 1) <;> cases decide (7 < l) <;> cases decide (5 ≤ d) <;> rfl
def gBid : List V → Option (Bool × V)
  | [.int .u8 l, .int .u8 d] => some (true, .tuple [.int .u8 (bidV l d), .int .i64 (bidE l d)])
  | _ => none
def tabBid : PTab := addTab 98 gBid (addTab 35 gRight emptyTab)
theorem tabBid_ok : PTabOk Try.prog tabBid := by
  refine addTab_ok ?_ (addTab_ok ?_ emptyTab_ok)
  · intro args c v h _
    unfold gBid at h
    split at h
    · cases h; exact bid_pure _ _
    · cases h
  · intro args c v h _
    unfold gRight at h
    split at h
    · cases h; exact right_p _
    · cases h
def chV (c d : Int) : Int := bif !decide (c ≤ 37) then 0 else bif decide (5 ≤ d) then 0 else bif decide (c < bidV 1 d) then bidV 1 d else bif decide (c < bidV 2 d) then bidV 2 d else bif decide (c < bidV 3 d) then bidV 3 d else bif decide (c < bidV 4 d) then bidV 4 d else bif decide (c < bidV 5 d) then bidV 5 d else bif decide (c < bidV 6 d) then bidV 6 d else bif decide (c < bidV 7 d) then bidV 7 d else 0
def chE (c d : Int) : Int := bif !decide (c ≤ 37) then 80 else bif decide (5 ≤ d) then 2 else bif decide (c < bidV 1 d) then 0 else bif decide (c < bidV 2 d) then 0 else bif decide (c < bidV 3 d) then 0 else bif decide (c < bidV 4 d) then 0 else bif decide (c < bidV 5 d) then 0 else bif decide (c < bidV 6 d) then 0 else bif decide (c < bidV 7 d) then 0 else 6
theorem ch_eval (c d : Int) : evalP tabBid 70 Try.f70 [.int .u8 c, .int .u8 d] = bif !decide (c ≤ 37) then some (.tuple [.int .u8 0, .int .i64 80]) else bif decide (5 ≤ d) then some (.tuple [.int .u8 0, .int .i64 2]) else bif decide (c < bidV 1 d) then some (.tuple [.int .u8 (bidV 1 d), .int .i64 0]) else bif decide (c < bidV 2 d) then some (.tuple [.int .u8 (bidV 2 d), .int .i64 0]) else bif decide (c < bidV 3 d) then some (.tuple [.int .u8 (bidV 3 d), .int .i64 0]) else bif decide (c < bidV 4 d) then some (.tuple [.int .u8 (bidV 4 d), .int .i64 0]) else bif decide (c < bidV 5 d) then some (.tuple [.int .u8 (bidV 5 d), .int .i64 0]) else bif decide (c < bidV 6 d) then some (.tuple [.int .u8 (bidV 6 d), .int .i64 0]) else bif decide (c < bidV 7 d) then some (.tuple [.int .u8 (bidV 7 d), .int .i64 0]) else some (.tuple [.int .u8 0, .int .i64 6]) := by kernel_rfl
theorem ch_pure (c d : Int) : FnPure Try.prog 70 [.int .u8 c, .int .u8 d] (.tuple [.int .u8 (chV c d), .int .i64 (chE c d)]) := by
  refine pure_at tabBid_ok Try.func70 (by kernel_rfl) ?_ rfl rfl
  rw [ch_eval]
  unfold chV chE
  cases decide (c ≤ 37) with
  | false => rfl
  | true => cases decide (5 ≤ d) with
    | true => rfl
    | false => cases decide (c < bidV 1 d) with
    | true => rfl
    | false => cases decide (c < bidV 2 d) with
    | true => rfl
    | false => cases decide (c < bidV 3 d) with
    | true => rfl
    | false => cases decide (c < bidV 4 d) with
    | true => rfl
    | false => cases decide (c < bidV 5 d) with
    | true => rfl
    | false => cases decide (c < bidV 6 d) with
    | true => rfl
    | false => cases decide (c < bidV 7 d) with
    | true => rfl
    | false => rfl
end Go.Proofs.Ytojlmpcbplepcaa
