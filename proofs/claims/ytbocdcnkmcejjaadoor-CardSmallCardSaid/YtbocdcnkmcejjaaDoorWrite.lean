/- Chapter 4: what Write does in one round. -/
import Derived.Test.YtbocdcnkmcejjaaDoorCo3
namespace Go.Proofs.YtbocdcnkmcejjaaDoor
open Go Go.Eng
noncomputable def wrA : Code := rangeA 6 Tryd.f18
noncomputable def wrB : Code := rangeB 6 Tryd.f18
noncomputable def wrLp : Code := loopOf 1 Tryd.f53
noncomputable def wrLB : TB := .loopB false 18 [o, o, o, o, some (.ptr 0 0), o, o, o, o, o, o, o, o, o, o, o, o, o, o, o, o, o, o, o, o, o] [10] wrA wrB 2
def wrS : TS := mkS [(0, .yield 3), (1, .ptr 1 0), (3, .int .u64)] 0 20
noncomputable def wrT : Tm := ⟨wrS, [.own 58 .strs, .own 32 (.vs [.int .u64]), .defs, wrLB], []⟩
def rkS : ByteArray := ⟨⟨rU⟩⟩
def wrC (r : Int) : Int := wr .i64 (lenI r - 1)
def wrI (c : Int) : Int := wr .u8 (3 - suitI (wr .u8 c))
def wrK (c : Int) : Int := rankI (wr .u8 c)
def wrX (c : Int) : ByteArray := extS ⟨⟨[50, 51, 52, 53, 54, 55, 56, 57, 84, 74, 81, 75, 65]⟩⟩ (wrK c).toNat (wr .u8 (wrK c + 1)).toNat
noncomputable def wrN (r c i k : Int) (ps : List ByteArray) (m : Int) (x : ByteArray) : RT := bif !decide (r = 0) then bif decide (0 ≤ r ∧ r ≤ 18446744073709551615) then bif decide (0 ≤ i ∧ i < 4) then
    match ps[i.toNat]? with
    | some v => bif decide (0 ≤ k ∧ k ≤ wr .u8 (k + 1) ∧ wr .u8 (k + 1) ≤ 13) then bif decide (v.data.toList.length + x.data.toList.length ≤ 9223372036854775807) then bif decide (0 ≤ i ∧ i < 4) then bif decide (i.toNat < ps.length) then
        bif decide (c < 0) then none else some (.normal, [.i (bitsI .andNot .u64 r (wr .u64 (1 * 2 ^ shAmt .u64 c))), .ss (ps.set i.toNat (catS v x)), .i m], [(wrA, wrA), (wrB, wrB)])
      else none else none else none else none
    | none => none
  else none else none else some (.exit 0, [.i r, .ss ps, .i m], [(wrA, wrA), (wrB, wrB)])
theorem wr_round (rd : Option Nat) (r m : Int) (ps : List ByteArray) : roundT Tryd.prog orcO noLoops 100 4 rd 53 wrLp wrT wrT [.i r, .ss ps, .i m] = wrN r (wrC r) (wrI (wrC r)) (wrK (wrC r)) ps m (wrX (wrC r)) := by kernel_rfl
end Go.Proofs.YtbocdcnkmcejjaaDoor
