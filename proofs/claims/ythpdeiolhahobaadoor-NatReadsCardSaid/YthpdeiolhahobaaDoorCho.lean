/- Chapter 2: the law NatChooses: its loop, and its formula. -/
import Derived.Test.YthpdeiolhahobaaDoorRing2
import Derived.Test.YthpdeiolhahobaaDoorPas
namespace Go.Proofs.YthpdeiolhahobaaDoor
open Go Go.Eng
structure NC where
  n : NV
  ch : Int → Int → Int
  che : Int → Int
def gChV (C : NC) : List V → Option (Bool × V)
  | [.int .i64 n, .int .i64 k] => some (true, .tuple [C.n.nW (C.ch n k), .int .i64 (C.che n)])
  | _ => none
def tabC (C : NC) : PTab := addTab 16 (gChV C) (tabV C.n)
noncomputable abbrev orcC (C : NC) : Oracle := inl Tryd.prog ftab (tabC C) plainL 200 never hDomM (hOrc (hTabV C.n)) 20
noncomputable def csLp : Code := loopOf 16 Tryd.f8
def csT : Tm := ⟨mkS [(5, .int .i64), (16, .ptr 0 0), (17, .int .i64)] 0 120, [.own 28 n4], []⟩
def csX : Tm := ⟨mkS [(5, .int .i64), (16, .ptr 0 0)] 0 120, [.own 28 n4], []⟩
theorem cs_round (C : NC) (rd : Option Nat) (m i a b c d : Int) : roundT Tryd.prog (orcC C) noLoops 200 0 rd 8 csLp csT csX [.i m, .i i, .i a, .i b, .i c, .i d] =
    bif decide (i ≤ m) then bif C.n.inn a b c d && C.n.iq (C.ch m i) then bif !decide (wr .i64 (C.che m + C.n.addE (C.n.z a b c d) (C.n.q4 (C.ch m i))) = 0) then some (.ret, [.i m, .i a, .i b, .i c, .i d], []) else
      some (.normal, [.i m, .i (wr .i64 (i + 1)), .i (C.n.w0 (C.n.add (C.n.z a b c d) (C.n.q4 (C.ch m i)))), .i (C.n.w1 (C.n.add (C.n.z a b c d) (C.n.q4 (C.ch m i)))), .i (C.n.w2 (C.n.add (C.n.z a b c d) (C.n.q4 (C.ch m i)))), .i (C.n.w3 (C.n.add (C.n.z a b c d) (C.n.q4 (C.ch m i))))], [])
    else none else some (.exit 0, [.i m, .i a, .i b, .i c, .i d], []) := by kernel_rfl
/-- The end's cases, one for each number of things. -/
def csTr (m : Int) : Nat → Fin
  | 0 => .no
  | k + 1 => .br (decide (m = (k : Int))) (.leaf (.exit 0) (csX.at [.i (k : Int), .i (w0 ((2 ^ k : Nat) : Int)), .i (w1 ((2 ^ k : Nat) : Int)), .i (w2 ((2 ^ k : Nat) : Int)), .i (w3 ((2 ^ k : Nat) : Int))])) (csTr m k)
noncomputable def csTree : List PV → Fin
  | [.i m, .i i, .i a, .i b, .i c, .i d] => .br (pB (0 ≤ m ∧ m < 128 ∧ i = 0 ∧ a = 0 ∧ b = 0 ∧ c = 0 ∧ d = 0)) (csTr m 128) .no
  | _ => .no
noncomputable def csL : Loops := sums (fun n => match n with | 16 => some (lsumF 0 csT csLp csTree) | _ => none)
def csRes (m : Int) : Nat → Option V
  | 0 => none
  | k + 1 => bif decide (m = (k : Int)) then some (.bool true) else csRes m k
noncomputable def csRest (M : Int) : Option V := cond (codesB [(csLp, csLp)]) (bif pB (0 ≤ M ∧ M < 128 ∧ (0 : Int) = 0 ∧ (0 : Int) = 0 ∧ (0 : Int) = 0 ∧ (0 : Int) = 0 ∧ (0 : Int) = 0) then csRes M 128 else none) none
noncomputable def csAll (C : NC) (M k : Int) : Option V :=
  bif C.n.iq (C.ch M k) && C.n.iq (C.ch M (wr .i64 (k - 1))) then
  bif !decide (wr .i64 (wr .i64 (wr .i64 (C.che (wr .i64 (M + 1)) + C.che M) + C.che M) + C.n.addE (C.n.q4 (C.ch M k)) (C.n.q4 (C.ch M (wr .i64 (k - 1))))) = 0) then fls2 else
  bif !C.n.eqN (C.n.add (C.n.q4 (C.ch M k)) (C.n.q4 (C.ch M (wr .i64 (k - 1))))) (C.ch (wr .i64 (M + 1)) k) then fls2 else
  bif decide (0 ≤ k) then bif decide (k ≤ M) then bif !C.n.eqN (C.ch M (wr .i64 (M - k))) (C.ch M k) then fls2 else bif !decide (C.che M = 0) then fls2 else csRest M else csRest M else csRest M
  else none
theorem chooses_eval (C : NC) (a k : Int) : evalFn Tryd.prog (orcC C) csL 200 8 Tryd.f8 [.int .u8 a, .int .i64 k] [] (fun v _ => some v) = csAll C ((wr .i64 a).tmod 128) k := by kernel_rfl
end Go.Proofs.YthpdeiolhahobaaDoor
