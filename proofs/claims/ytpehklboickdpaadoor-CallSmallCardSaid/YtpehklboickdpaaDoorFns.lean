/- Chapter 8: Right, Parts, Bid of one number or two. -/
import Derived.Test.YtpehklboickdpaaDoorAwake
namespace Go.Proofs.YtpehklboickdpaaDoor
open Go Go.Eng
noncomputable abbrev evalP (T : PTab) (f : FuncId) (fn : Func) (args : List V) : Option V := evalFn Tryd.prog (orcS T plainL) noLoops 100 f fn args [] (fun v _ => some v)
theorem pure_at {T : PTab} (hT : PTabOk Tryd.prog T) {f : FuncId} {fn : Func} {args : List V} {v : V} (hf : Tryd.prog.funcs[f]? = some fn) (hb : enterB fn = true)
    (h : evalP T f fn args = some v) (ha : plainVs args = true) (hv : plainV v = true) : FnPure Tryd.prog f args v :=
  fnPure_of_eval (orcS_ok hT plainL_ok) mixed hf hb noLoops_ok h ha hv
def isB (c : Int) : Bool := bif decide (c < 3) then false else decide (c ≤ 37)
def pl (c : Int) : Int := bif isB c then wr .u8 (wr .u8 ((wr .u8 (c - 3)).tdiv 5) + 1) else 0
def pd (c : Int) : Int := bif isB c then (wr .u8 (c - 3)).tmod 5 else 0
theorem parts_eval (c : Int) : evalP tabS 12 Tryd.f12 [.int .u8 c] = bif decide (c < 3) then some (.tuple [.int .u8 0, .int .u8 0, .bool false]) else bif !decide (c ≤ 37) then some (.tuple [.int .u8 0, .int .u8 0, .bool false])
    else some (.tuple [.int .u8 (wr .u8 (wr .u8 ((wr .u8 (c - 3)).tdiv 5) + 1)), .int .u8 ((wr .u8 (c - 3)).tmod 5), .bool true]) := by kernel_rfl
theorem parts_pure (c : Int) : FnPure Tryd.prog 12 [.int .u8 c] (.tuple [.int .u8 (pl c), .int .u8 (pd c), .bool (isB c)]) := by
  refine pure_at tabS_ok Tryd.func12 (by kernel_rfl) ?_ rfl rfl
  rw [parts_eval]
  unfold pl pd isB
  cases decide (c < 3) <;> cases decide (c ≤ 37) <;> rfl
def badB (l d : Int) : Bool := bif decide (l < 1) then true else bif decide (7 < l) then true else decide (5 ≤ d)
def bidV (l d : Int) : Int := bif badB l d then 0 else wr .u8 (wr .u8 (3 + wr .u8 (5 * wr .u8 (l - 1))) + d)
def bidE (l d : Int) : Int := bif badB l d then 2 else 0
theorem bid_eval (l d : Int) : evalP tabS 13 Tryd.f13 [.int .u8 l, .int .u8 d] = bif decide (l < 1) then some (.tuple [.int .u8 0, .int .i64 2]) else bif decide (7 < l) then some (.tuple [.int .u8 0, .int .i64 2]) else
    bif decide (5 ≤ d) then some (.tuple [.int .u8 0, .int .i64 2]) else some (.tuple [.int .u8 (wr .u8 (wr .u8 (3 + wr .u8 (5 * wr .u8 (l - 1))) + d)), .int .i64 0]) := by kernel_rfl
theorem bid_pure (l d : Int) : FnPure Tryd.prog 13 [.int .u8 l, .int .u8 d] (.tuple [.int .u8 (bidV l d), .int .i64 (bidE l d)]) := by
  refine pure_at tabS_ok Tryd.func13 (by kernel_rfl) ?_ rfl rfl
  rw [bid_eval]
  unfold bidV bidE badB
  cases decide (l < 1) <;> cases decide (7 < l) <;> cases decide (5 ≤ d) <;> rfl
def gParts : List V → Option (Bool × V)
  | [.int .u8 c] => some (true, .tuple [.int .u8 (pl c), .int .u8 (pd c), .bool (isB c)])
  | _ => none
def gBid : List V → Option (Bool × V)
  | [.int .u8 l, .int .u8 d] => some (true, .tuple [.int .u8 (bidV l d), .int .i64 (bidE l d)])
  | _ => none
def tabP : PTab := addTab 13 gBid (addTab 12 gParts tabS)
theorem tabP_ok : PTabOk Tryd.prog tabP := by
  refine addTab_ok ?_ (addTab_ok ?_ tabS_ok)
  · intro args c v h _
    unfold gBid at h
    split at h
    · cases h; exact bid_pure _ _
    · cases h
  · intro args c v h _
    unfold gParts at h
    split at h
    · cases h; exact parts_pure _
    · cases h
end Go.Proofs.YtpehklboickdpaaDoor
