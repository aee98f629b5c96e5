/- Chapter 4: the law CardWrong. -/
import Derived.Test.YtbocdcnkmcejjaaDoorMask2
import Derived.Test.YtbocdcnkmcejjaaDoorLOrder
namespace Go.Proofs.YtbocdcnkmcejjaaDoor
open Go Go.Eng
def insS (w : ByteArray) (i : Int) (c : UInt8) : ByteArray := catS (catS (extS w (0 : Int).toNat i.toNat) ⟨⟨[c]⟩⟩) (extS w i.toNat (Int.ofNat (lenS w)).toNat)
def insC (w : ByteArray) (i : Int) (c : UInt8) (K : Option V) : Option V := bif decide (0 ≤ (0 : Int) ∧ 0 ≤ i ∧ i ≤ Int.ofNat w.data.toList.length) then bif decide ((extS w (0 : Int).toNat i.toNat).data.toList.length + 1 ≤ 9223372036854775807) then
    bif decide (0 ≤ i ∧ i ≤ Int.ofNat w.data.toList.length ∧ Int.ofNat w.data.toList.length ≤ Int.ofNat w.data.toList.length) then bif decide ((catS (extS w (0 : Int).toNat i.toNat) ⟨⟨[c]⟩⟩).data.toList.length + (extS w i.toNat (Int.ofNat (lenS w)).toNat).data.toList.length ≤ 9223372036854775807) then K
    else none else none else none else none
def chkP (x : ByteArray) (K : Option V) : Option V := bif !decide (prV x = 0) then some (.bool false) else bif !decide (prE x = 40) then some (.bool false) else K
def cwT (w : ByteArray) (i : Int) : Option V := insC w i 120 (insC w i 46 (bif decide (w.data.toList.length + 1 ≤ 9223372036854775807) then insC w i 49 (chkP (insS w i 120) (chkP (insS w i 46) (chkP (catS w ⟨⟨[32]⟩⟩) (chkP (insS w i 49) (some (.bool true)))))) else none))
def cwI (m at1 : Int) : Int := (wr .i64 at1).tmod (wr .i64 (Int.ofNat (wrV (mI m)).data.toList.length + 1))
def cwB (m high : Int) : Int := bitsI .or .u64 (mI m) (wr .u64 (1 * 2 ^ shAmt .u64 (wr .u8 (52 + high.tmod 12))))
def maxB (n c : Int) : Int := foldI maxI n [c]
theorem cw_all (m high n at1 : Int) : evalFn Tryd.prog (orcM tabE plainL) noLoops 100 10 Tryd.f10 [.int .u64 m, .int .u8 high, .int .u8 n, .int .u8 at1] gH (fun v _ => some v) =
    bif decide (wr .u8 (52 + high.tmod 12) < 0) then none else bif bigI (cwB m high) then bif decide (0 ≤ cwB m high) then bif bigI (cwB m high) || decide (3 < n.tmod 4) then bif bigI (cwB m high) || decide (3 < n.tmod 4) then
    bif inR (maxB n 52) then bif (true && (decide (0 ≤ maxB n 52) && true)) && true then bif !decide (wrE (cwB m high) = 41) then some (.bool false) else bif !decide (txE4 (maxB n 52) = 41) then some (.bool false) else
    bif !decide ((mkN [3, maxB n 52, 3] 0).1 = 41) then some (.bool false) else bif decide (maxB n 52 < 52) then some (.bool false) else bif !decide (suitI (maxB n 52) = 0) then some (.bool false) else bif !decide (rankI (maxB n 52) = 0) then some (.bool false) else
    bif inR (maxB n 13) then bif (true && (true && (decide (0 ≤ maxB n 52) && true))) && true then bif bigI (mI m) || decide (3 < maxB n 4) then bif bigI (mI m) || decide (3 < maxB n 4) then
    bif !decide (ofE (maxB n 4) 0 = 2) then some (.bool false) else bif !decide (ofE 0 (maxB n 13) = 2) then some (.bool false) else bif decide (0 ≤ mI m) then
    bif decide (wr .i64 (Int.ofNat (wrV (mI m)).data.toList.length + 1) = 0) then none else cwT (wrV (mI m)) (cwI m at1)
    else none else none else none else none else none else none else none else none else none else none else none := by kernel_rfl
end Go.Proofs.YtbocdcnkmcejjaaDoor
