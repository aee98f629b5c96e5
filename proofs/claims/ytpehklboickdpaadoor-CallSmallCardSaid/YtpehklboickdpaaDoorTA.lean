/- Chapter 8: TextAll: its loop. -/
import Derived.Test.YtpehklboickdpaaDoorRA5
namespace Go.Proofs.YtpehklboickdpaaDoor
open Go Go.Eng
noncomputable def taLp : Code := loopOf 5 Tryd.f18
def taT (nn : Bool) : Tm := ⟨mkS [(2, .str), (3, .int .i64), (4, .gs 2), (13, .gs 1), (14, .int .i64), (15, .int .i64)] 0 31, [.glob 0 .strs, .rs nn 1 (.ints .u8), .grow true 9 1 .strs], []⟩
def taX (nn : Bool) : Tm := ⟨mkS [(2, .str), (3, .int .i64), (4, .gs 2)] 0 31, [.glob 0 .strs, .rs nn 1 (.ints .u8), .grow true 9 1 .strs], []⟩
def atB {α : Type} (l : List ByteArray) (c : Int) (K : ByteArray → Option α) : Option α := bif decide (0 ≤ c ∧ c < 38) then (match l[c.toNat]? with | some v => K v | none => none) else none
def atU {α : Type} (l : List Int) (i : Int) (K : Int → Option α) : Option α := bif decide (0 ≤ i ∧ i < Int.ofNat l.length) then (match l[i.toNat]? with | some v => K v | none => none) else none
theorem ta_round (nn : Bool) (rd : Option Nat) (e : ByteArray) (z n i : Int) (tl ss : List ByteArray) (xs : List Int) : roundT Tryd.prog (orcS tabS plainL) noLoops 100 2 rd 18 taLp (taT nn) (taX nn) [.s e, .i z, .i n, .i i, .ss tl, .l xs, .ss ss] =
    bif decide (i < n) then atU xs i (fun c => bif !decide (c ≤ 37) then some (.ret, [.s ⟨#[]⟩, .i 80, .ss tl, .l xs, .ss ss], []) else
      atB tl c (fun t => bif decide ((ss ++ [t]).length * 17 ≤ 70368744177664) then some (.normal, [.s e, .i z, .i n, .i (wr .i64 (i + 1)), .ss tl, .l xs, .ss (ss ++ [t])], []) else none)) else some (.exit 0, [.s e, .i z, .ss tl, .l xs, .ss ss], []) := by cases nn <;> kernel_rfl
end Go.Proofs.YtpehklboickdpaaDoor
