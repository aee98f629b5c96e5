/- Chapter 9: Table: one round of its third loop. -/
import Derived.Test.YtnhilofmafjdpaaDoorTb2
namespace Go.Proofs.YtnhilofmafjdpaaDoor
open Go Go.Eng
def qC (cs : List ByteArray) (i : Int) (k : Nat) : ByteArray := bif decide (k < (Int.ofNat cs.length).toNat - i.toNat) then cs.getD (i.toNat + k) noS else noS
def q4 (cs : List ByteArray) (i : Int) : Bool := decide ((qC cs i 0).size ≤ 5 ∧ (qC cs i 1).size ≤ 5 ∧ (qC cs i 2).size ≤ 5 ∧ (qC cs i 3).size ≤ 5)
theorem t3_round (CH : St → Int → Int) (OV : St → Bool) (LN : LNT) (nn : Bool) (rd : Option Nat) (i : Int) (tl cs ts : List ByteArray) (xs : List Int) : roundT Tryd.prog (orcE (tabT CH OV LN) plainL) noLoops 100 2 rd 20 t3Lp (t3T nn) (t3X nn) [.i i, .ss tl, .l xs, .ss cs, .ss ts] =
    bif decide (i < Int.ofNat cs.length) then bif decide (0 ≤ i ∧ i ≤ Int.ofNat cs.length ∧ Int.ofNat cs.length ≤ Int.ofNat cs.length) then bif decide (i.toNat + ((Int.ofNat cs.length).toNat - i.toNat) ≤ cs.length) then
      bif q4 cs i then bif decide ((ts ++ [LN (qC cs i 0) (qC cs i 1) (qC cs i 2) (qC cs i 3)]).length * 17 ≤ 70368744177664) then some (.normal, [.i (wr .i64 (i + 4)), .ss tl, .l xs, .ss cs, .ss (ts ++ [LN (qC cs i 0) (qC cs i 1) (qC cs i 2) (qC cs i 3)])], []) else none else none else none else none else some (.exit 4, [.ss tl, .l xs, .ss ts], []) := by cases nn <;> kernel_rfl
end Go.Proofs.YtnhilofmafjdpaaDoor
