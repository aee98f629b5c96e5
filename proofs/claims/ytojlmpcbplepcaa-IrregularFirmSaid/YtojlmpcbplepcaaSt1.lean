/- Chapter 9: Parts, over, check. -/
import Derived.Test.YtojlmpcbplepcaaBase0
namespace Go.Proofs.Ytojlmpcbplepcaa
open Go Go.Eng

def lvI (c : Int) : Int := wr .u8 (wr .u8 ((wr .u8 (c - 3)).tdiv 5) + 1)
def dnI (c : Int) : Int := (wr .u8 (c - 3)).tmod 5
def isBid (c : Int) : Bool := decide (3 ≤ c) && decide (c ≤ 37)
def ptV (c : Int) : V := bif isBid c then .tuple [.int .u8 (lvI c), .int .u8 (dnI c), .bool true] else .tuple [.int .u8 0, .int .u8 0, .bool false]
theorem parts_eval (c : Int) : evalP emptyTab 55 Try.f55 [.int .u8 c] = bif decide (c < 3) then some (.tuple [.int .u8 0, .int .u8 0, .bool false]) else bif !decide (c ≤ 37) then some (.tuple [.int .u8 0, .int .u8 0, .bool false]) else some (.tuple [.int .u8 (lvI c), .int .u8 (dnI c), .bool true]) := by kernel_rfl
theorem parts_p (c : Int) : FnPure Try.prog 55 [.int .u8 c] (ptV c) := by
  refine pure_at emptyTab_ok Try.func55 (by kernel_rfl) ?_ rfl (by unfold ptV; cases isBid c <;> rfl)
  rw [parts_eval]; unfold ptV isBid
  rw [show decide (3 ≤ c) = !decide (c < 3) by rw [← decide_not]; congr 1; simp only [eq_iff_iff]; omega]
  cases decide (c < 3) <;> cases decide (c ≤ 37) <;> rfl
theorem right_eval (c : Int) : evalP emptyTab 35 Try.f35 [.int .u8 c] = some (.bool (decide (c ≤ 37))) := by kernel_rfl
theorem right_p (c : Int) : FnPure Try.prog 35 [.int .u8 c] (.bool (decide (c ≤ 37))) := pure_at emptyTab_ok Try.func35 (by kernel_rfl) (right_eval c) rfl rfl

/-- Whether an auction is over. -/
def ovr (s : St) : Bool := bif s.b.m then decide (3 ≤ s.passes) else decide (4 ≤ s.passes)
theorem over_eval (s : St) : evalP emptyTab 61 Try.f61 [.agg s.vs] = bif s.b.m then some (.bool (decide (3 ≤ s.passes))) else some (.bool (decide (4 ≤ s.passes))) := by kernel_rfl
theorem plain_bd (b : Bd) (r : List V) : plainVs (b.vs r) = plainVs r := rfl
theorem plain_st (s : St) : plainVs s.vs = true := rfl
theorem over_p (s : St) : FnPure Try.prog 61 [.agg s.vs] (.bool (ovr s)) := by
  refine pure_at emptyTab_ok Try.func61 (by kernel_rfl) ?_ rfl rfl
  rw [over_eval]; unfold ovr
  cases s.b.m <;> rfl
def gRight : List V → Option (Bool × V)
  | [.int .u8 c] => some (true, .bool (decide (c ≤ 37)))
  | _ => none
def gParts : List V → Option (Bool × V)
  | [.int .u8 c] => some (true, ptV c)
  | _ => none
def lvZ (c : Int) : Int := bif isBid c then lvI c else 0
def dnZ (c : Int) : Int := bif isBid c then dnI c else 0
def gPartsP : List V → Option (Bool × V)
  | [.int .u8 c] => some (true, .tuple [.int .u8 (lvZ c), .int .u8 (dnZ c), .bool (isBid c)])
  | _ => none
theorem ptV_is (c : Int) : ptV c = .tuple [.int .u8 (lvZ c), .int .u8 (dnZ c), .bool (isBid c)] := by
  unfold ptV lvZ dnZ
  cases isBid c <;> rfl
def gPartsD (dl : Int) : List V → Option (Bool × V)
  | [.int .u8 c] => some (isBid c && decide (dnI c = dl), .tuple [.int .u8 (lvI c), .int .u8 dl, .bool true])
  | _ => none
def gOver : List V → Option (Bool × V)
  | [.agg l] => match ofVs l with
    | some s => some (true, .bool (ovr s))
    | none => none
  | _ => none
def tab0 : PTab := addTab 35 gRight (addTab 61 gOver emptyTab)
theorem tab0_ok : PTabOk Try.prog tab0 := by
  refine addTab_ok ?_ (addTab_ok ?_ emptyTab_ok)
  · intro args c v h _
    unfold gRight at h
    split at h
    · cases h; exact right_p _
    · cases h
  · intro args c v h _
    unfold gOver at h
    split at h
    · split at h
      · rename_i s hs; cases h; rw [ofVs_ok hs]; exact over_p s
      · cases h
    · cases h
/-- Why a call is not legal. -/
def same2 (s : St) : Bool := decide (s.b.s.tmod 2 = s.turn.tmod 2)
def chk (s : St) (c : Int) : Int := bif !decide (c ≤ 37) then 80 else bif ovr s then 90 else bif decide (c = 0) then 0 else
  bif decide (c = 1) then (bif s.b.m && (!same2 s && decide (s.risk = 0)) then 0 else 2) else bif decide (c = 2) then (bif s.b.m && (same2 s && decide (s.risk = 1)) then 0 else 2) else bif decide (s.b.c < c) then 0 else 2
end Go.Proofs.Ytojlmpcbplepcaa
