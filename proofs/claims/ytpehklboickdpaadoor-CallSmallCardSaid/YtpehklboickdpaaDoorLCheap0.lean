/- Chapter 8: CallCheapest's loop. -/
import Derived.Test.YtpehklboickdpaaDoorCheap
namespace Go.Proofs.YtpehklboickdpaaDoor
open Go Go.Eng
def nx (o : Int) : Int := wr .u8 (foldI maxI o [2] + 1)
noncomputable def ccLp : Code := loopOf 7 Tryd.f5
def ccT : Tm := ⟨mkS [(0, .int .u8), (1, .int .u8), (4, .bool), (5, .int .u8), (6, .int .i64), (7, .int .u8)] 0 150, [.glob 0 .strs], []⟩
def ccX : Tm := ⟨mkS [(0, .int .u8), (1, .int .u8), (4, .bool), (5, .int .u8), (6, .int .i64)] 0 150, [.glob 0 .strs], []⟩
def ccP (o b : Int) (r : Bool) (n f d : Int) (ts : List ByteArray) : List PV := [.i o, .i b, .b r, .i n, .i f, .i d, .ss ts]
def ccQ (o b : Int) (r : Bool) (n f : Int) (ts : List ByteArray) : List PV := [.i o, .i b, .b r, .i n, .i f, .ss ts]
abbrev RTc := Option (XE × List PV × List (Code × Code))
def ccK (o b : Int) (n f d : Int) (ts : List ByteArray) (k : RTc) : RTc := bif !decide (chE o d = 0) then some (.ret, ccQ o b false n f ts, []) else bif !isB (chV o d) then some (.ret, ccQ o b false n f ts, []) else
  bif !decide (pd (chV o d) = d) then some (.ret, ccQ o b false n f ts, []) else bif decide (chV o d < n) then some (.ret, ccQ o b false n f ts, []) else bif decide (wr .u8 (n + 5) ≤ chV o d) then some (.ret, ccQ o b false n f ts, []) else k
theorem cc_round (rd : Option Nat) (o b : Int) (r : Bool) (n f d : Int) (ts : List ByteArray) : roundT Tryd.prog (orcA tabJ plainL) noLoops 100 1 rd 5 ccLp ccT ccX (ccP o b r n f d ts) =
    bif decide (d < 5) then bif decide (chE o d = 6) then bif decide (chV o d = 0) then some (.normal, ccP o b r n f (wr .u8 (d + 1)) ts, []) else ccK o b n f d ts (some (.normal, ccP o b r n (wr .i64 (f + 1)) (wr .u8 (d + 1)) ts, []))
      else ccK o b n f d ts (some (.normal, ccP o b r n (wr .i64 (f + 1)) (wr .u8 (d + 1)) ts, [])) else some (.exit 0, ccQ o b r n f ts, []) := by kernel_rfl
end Go.Proofs.YtpehklboickdpaaDoor
