/- Chapter 9: Table: one round of each loop. -/
import Derived.Test.YtnhilofmafjdpaaDoorTb
namespace Go.Proofs.YtnhilofmafjdpaaDoor
open Go Go.Eng
def dashS : ByteArray := ⟨#[45]⟩
def askS : ByteArray := ⟨#[63]⟩
def noS : ByteArray := ⟨#[]⟩
abbrev LNT := ByteArray → ByteArray → ByteArray → ByteArray → ByteArray
theorem t1_round (CH : St → Int → Int) (OV : St → Bool) (LN : LNT) (nn : Bool) (rd : Option Nat) (n i : Int) (tl cs : List ByteArray) (xs : List Int) (s : St) : roundT Tryd.prog (orcE (tabT CH OV LN) plainL) noLoops 100 2 rd 20 t1Lp (t1T nn) (t1X nn) (.i n :: .i i :: .ss tl :: .l xs :: s.pv [.ss cs]) =
    bif decide (i < n) then bif decide ((cs ++ [dashS]).length * 17 ≤ 70368744177664) then some (.normal, .i n :: .i (wr .u8 (i + 1)) :: .ss tl :: .l xs :: s.pv [.ss (cs ++ [dashS])], []) else none else some (.exit 0, .ss tl :: .l xs :: s.pv [.ss cs], []) := by cases nn <;> kernel_rfl
def atB {α : Type} (l : List ByteArray) (c : Int) (K : ByteArray → Option α) : Option α := bif decide (0 ≤ c ∧ c < 38) then (match l[c.toNat]? with | some v => K v | none => none) else none
theorem t2_round (CH : St → Int → Int) (OV : St → Bool) (LN : LNT) (nn : Bool) (rd : Option Nat) (n i : Int) (tl cs : List ByteArray) (xs : List Int) (s : St) : roundT Tryd.prog (orcE (tabT CH OV LN) plainL) noLoops 100 2 rd 20 t2Lp (t2T nn) (t2X nn) (.i n :: .i i :: .ss tl :: .l xs :: s.pv [.ss cs]) =
    bif decide (i < n) then atU xs i (fun c => bif !decide (c ≤ 37) then (bif decide ((cs ++ [noS]).length * 17 ≤ 70368744177664) then some (.normal, .i n :: .i (wr .i64 (i + 1)) :: .ss tl :: .l xs :: s.pv [.ss (cs ++ [noS])], []) else none) else
      atB tl c (fun t => bif decide ((cs ++ [t]).length * 17 ≤ 70368744177664) then some (.normal, .i n :: .i (wr .i64 (i + 1)) :: .ss tl :: .l xs :: s.pv [.ss (cs ++ [t])], []) else none)) else some (.exit 2, .ss tl :: .l xs :: s.pv [.ss cs], []) := by cases nn <;> kernel_rfl
end Go.Proofs.YtnhilofmafjdpaaDoor
