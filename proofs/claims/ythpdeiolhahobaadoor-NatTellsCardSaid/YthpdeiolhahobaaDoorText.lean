/- Chapter 2: Text: its loop, and its formula. -/
import Derived.Test.YthpdeiolhahobaaDoorRead2
import Derived.Test.YthpdeiolhahobaaDoorDg
namespace Go.Proofs.YthpdeiolhahobaaDoor
open Go Go.Eng
structure NT where
  z : Int → Int → Int → Int → Int
  w0 : Int → Int
  w1 : Int → Int
  w2 : Int → Int
  w3 : Int → Int
  inn : Int → Int → Int → Int → Bool
  te : Int → Int
  teR : Int → Int
def NT.nW (N : NT) (x : Int) : V := .agg [.int .u32 (N.w0 x), .int .u32 (N.w1 x), .int .u32 (N.w2 x), .int .u32 (N.w3 x)]
def gTenthV (N : NT) : List V → Option (Bool × V)
  | [.agg [.int .u32 a, .int .u32 b, .int .u32 c, .int .u32 d]] => some (N.inn a b c d, .tuple [N.nW (N.te (N.z a b c d)), .int .u32 (N.teR (N.z a b c d))])
  | _ => none
def tabTx (N : NT) : PTab := addTab 34 (gTenthV N) emptyTab
noncomputable abbrev orcT (N : NT) : Oracle := orcP (tabTx N) plainL
noncomputable def txLp : Code := loopOf 3 Tryd.f17
def txT : Tm := ⟨mkS [(1, .ptr 0 0), (3, .ptr 1 0), (4, .int .i64)] 0 28, [.own 28 n4, .own 67 (.ints .u8)], []⟩
def txX : Tm := ⟨mkS [(2, .str)] 0 28, [], []⟩
def NT.isZ (N : NT) (x : Int) : Bool := decide (N.w0 x = 0) && (decide (N.w1 x = 0) && (decide (N.w2 x = 0) && (decide (N.w3 x = 0) && true)))
def txP (t : Int) : Nat := (wr .i64 (t - 1)).toNat
def txS (xs : List Int) (t r : Int) : List Int := xs.set (txP t) (wr .u8 (wr .u32 (48 + r)))
noncomputable def txOut (t : Int) (ys : List Int) : RT := bif decide (0 ≤ wr .i64 (t - 1) ∧ wr .i64 (t - 1) ≤ 39 ∧ (39 : Int) ≤ 39) then bif decide ((bif Nat.beq 39 (txP t) then 0 else txP t) + (39 - txP t) ≤ ys.length) then
  some (.ret, [.s (bytesOf (List.take (mulS (39 - txP t) 1) (List.drop (bif Nat.beq 39 (txP t) then 0 else addS 0 (mulS (txP t) 1)) ys)))], []) else none else none
theorem tx_round (N : NT) (rd : Option Nat) (xs : List Int) (t a b c d : Int) : roundT Tryd.prog (orcT N) noLoops 200 0 rd 17 txLp txT txX [.i t, .i a, .i b, .i c, .i d, .l xs] =
    bif N.inn a b c d then bif decide (0 ≤ wr .i64 (t - 1) ∧ wr .i64 (t - 1) < 39) then bif decide (txP t < xs.length) then
      bif N.isZ (N.te (N.z a b c d)) then txOut t (txS xs t (N.teR (N.z a b c d))) else bif decide (wr .i64 (t - 1) = 0) then txOut t (txS xs t (N.teR (N.z a b c d))) else
      some (.normal, [.i (wr .i64 (t - 1)), .i (N.w0 (N.te (N.z a b c d))), .i (N.w1 (N.te (N.z a b c d))), .i (N.w2 (N.te (N.z a b c d))), .i (N.w3 (N.te (N.z a b c d))), .l (txS xs t (N.teR (N.z a b c d)))], [])
    else none else none else none := by kernel_rfl
end Go.Proofs.YthpdeiolhahobaaDoor
