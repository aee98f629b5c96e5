/- Chapter 4: CardTells answers true, for any numbers and any string. -/
import Derived.Test.YtbocdcnkmcejjaaDoorTells0
namespace Go.Proofs.YtbocdcnkmcejjaaDoor
open Go Go.Eng
def fV : Option V := some (.bool false)
theorem ct_all (c a b : Int) (s : ByteArray) : lawG tabT plainL 3 Tryd.f3 [.int .u8 c, .int .u8 a, .int .u8 b, .str s] =
    bif decide (100 < Int.ofNat s.data.toList.length) then some (.bool true) else bif inR b then bif inR b then bif inR c then bif inR c then
      bif (bif decide (c < 52) then decide (c < 52) else !decide (c < 52)) then bif inR c then bif decide (suitI c = suitI c) then bif inR c then bif decide (rankI c = rankI c) then
      bif decide (ofV a b = ofV a b) then bif decide (ofE a b = ofE a b) then bif beqBs (txt4 c).data.toList (txt4 c).data.toList then bif decide (txE4 c = txE4 c) then
      bif decide (rdV s = rdV s) then bif decide (rdE s = rdE s) then some (.bool true) else fV else fV else fV else fV else fV else fV else fV else none else fV else none else fV
    else none else none else none else none := by kernel_rfl
theorem ct_true {c a b : Int} (s : ByteArray) (hc : 0 ≤ c ∧ c < 256) (hb : 0 ≤ b ∧ b < 256) : lawG tabT plainL 3 Tryd.f3 [.int .u8 c, .int .u8 a, .int .u8 b, .str s] = some (.bool true) := by
  have e1 : inR c = true := decide_eq_true hc
  have e2 : inR b = true := decide_eq_true hb
  have e3 : beqBs (txt4 c).data.toList (txt4 c).data.toList = true := beq_iff.2 rfl
  rw [ct_all, e1, e2, e3]
  cases decide (100 < Int.ofNat s.data.toList.length) <;> cases decide (c < 52) <;> simp
end Go.Proofs.YtbocdcnkmcejjaaDoor
