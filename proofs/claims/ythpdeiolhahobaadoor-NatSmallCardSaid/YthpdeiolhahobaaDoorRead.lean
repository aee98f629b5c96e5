/- Chapter 2: Read: its loop, and its formula. -/
import Derived.Test.YthpdeiolhahobaaDoorR14
import Derived.Test.YthpdeiolhahobaaDoorTen
namespace Go.Proofs.YthpdeiolhahobaaDoor
open Go Go.Eng
/-- Numbers and the inner operations, as names alone. -/
structure NR where
  z : Int → Int → Int → Int → Int
  w0 : Int → Int
  w1 : Int → Int
  w2 : Int → Int
  w3 : Int → Int
  inn : Int → Int → Int → Int → Bool
  tm : Int → Int → Int
  tmB : Int → Int → Bool
  pl : Int → Int → Int
  plC : Int → Int → Int
  tr : ByteArray → ByteArray
  trC : ByteArray → ByteArray → Bool
def NR.nW (N : NR) (x : Int) : V := .agg [.int .u32 (N.w0 x), .int .u32 (N.w1 x), .int .u32 (N.w2 x), .int .u32 (N.w3 x)]
def NR.q4 (N : NR) (x : Int) : Int := N.z (N.w0 x) (N.w1 x) (N.w2 x) (N.w3 x)
def NR.iq (N : NR) (x : Int) : Bool := N.inn (N.w0 x) (N.w1 x) (N.w2 x) (N.w3 x)
def gTimesV (N : NR) : List V → Option (Bool × V)
  | [.agg [.int .u32 a, .int .u32 b, .int .u32 c, .int .u32 d], .agg [.int .u32 e, .int .u32 f, .int .u32 g, .int .u32 h]] => some (N.inn a b c d && N.inn e f g h, .tuple [N.nW (N.tm (N.z a b c d) (N.z e f g h)), .bool (N.tmB (N.z a b c d) (N.z e f g h))])
  | _ => none
def gPlusV (N : NR) : List V → Option (Bool × V)
  | [.agg [.int .u32 a, .int .u32 b, .int .u32 c, .int .u32 d], .agg [.int .u32 e, .int .u32 f, .int .u32 g, .int .u32 h]] => some (N.inn a b c d && N.inn e f g h, .tuple [N.nW (N.pl (N.z a b c d) (N.z e f g h)), .int .u32 (N.plC (N.z a b c d) (N.z e f g h))])
  | _ => none
def gTrimV (N : NR) : List V → Option (Bool × V)
  | [.str s, .str c] => some (N.trC s c, .str (N.tr s))
  | _ => none
def tabR (N : NR) : PTab := addTab 36 (gTimesV N) (addTab 37 (gPlusV N) (addTab 35 (gTrimV N) emptyTab))
noncomputable abbrev orcR (N : NR) : Oracle := orcP (tabR N) plainL
noncomputable def rdLp : Code := loopOf 7 Tryd.f18
def rdT : Tm := ⟨mkS [(0, .str), (2, .ptr 0 0), (3, .int .i64), (4, .ptr 1 0), (28, .int .i64), (29, .int .i64)] 0 59, [.own 28 z4, .own 28 n4], []⟩
def rdX : Tm := ⟨mkS [(2, .ptr 0 0), (3, .int .i64), (4, .ptr 1 0)] 0 59, [.own 28 z4, .own 28 n4], []⟩
def NR.dg (N : NR) (b : UInt8) : Int := N.z (wr .u32 (wr .u8 ((b.toNat : Int) - 48))) 0 0 0
def NR.A10 (N : NR) (A : Int) : Int := N.tm A (N.z 10 0 0 0)
noncomputable def rdK (N : NR) (n i o0 A a b c d : Int) (s : ByteArray) (ch : UInt8) : RT :=
  bif N.iq (N.A10 A) && N.inn (wr .u32 (wr .u8 ((ch.toNat : Int) - 48))) 0 0 0 then bif !N.tmB A (N.z 10 0 0 0) then some (.ret, [.i 3, .i a, .i b, .i c, .i d], []) else
    bif !decide (N.plC (N.q4 (N.A10 A)) (N.dg ch) = 0) then some (.ret, [.i 3, .i a, .i b, .i c, .i d], []) else
      some (.normal, [.s s, .i o0, .i n, .i (wr .i64 (i + 1)), .i (N.w0 (N.pl (N.q4 (N.A10 A)) (N.dg ch))), .i (N.w1 (N.pl (N.q4 (N.A10 A)) (N.dg ch))), .i (N.w2 (N.pl (N.q4 (N.A10 A)) (N.dg ch))), .i (N.w3 (N.pl (N.q4 (N.A10 A)) (N.dg ch)))], [])
  else none
noncomputable def rdR (N : NR) (n i o0 a b c d : Int) (s : ByteArray) : RT := bif decide (i < n) then bif N.inn a b c d && N.inn 10 0 0 0 then bif decide (0 ≤ i) then oK s.data.toList[i.toNat]? (fun ch => rdK N n i o0 (N.z a b c d) a b c d s ch)
  else none else none else some (.exit 0, [.i o0, .i a, .i b, .i c, .i d], [])
theorem rd_round (N : NR) (rd : Option Nat) (s : ByteArray) (n i o0 a b c d : Int) : roundT Tryd.prog (orcR N) noLoops 200 0 rd 18 rdLp rdT rdX [.s s, .i o0, .i n, .i i, .i a, .i b, .i c, .i d] = rdR N n i o0 a b c d s := by kernel_rfl
abbrev M128 : Nat := 340282366920938463463374607431768211456
/-- Digits are read from the front: whether the number was short enough; as far as it was. -/
def fits (x : Nat) : Bool := decide ((x : Int) < 340282366920938463463374607431768211456)
theorem fits_true {x : Nat} (h : x < 340282366920938463463374607431768211456) : fits x = true := by unfold fits; rw [decide_eq_true (by omega)]
theorem fits_false {x : Nat} (h : ¬ x < 340282366920938463463374607431768211456) : fits x = false := by unfold fits; rw [decide_eq_false (by omega)]
def rdRun : List UInt8 → Nat → Bool × Nat
  | [], a => (true, a)
  | b :: r, a => bif fits (10 * a + (b.toNat - 48)) then rdRun r (10 * a + (b.toNat - 48)) else (false, a)
noncomputable def rdTree : List PV → Fin
  | [.s s, .i o0, .i n, .i i, .i a, .i b, .i c, .i d] => .br (pB (o0 = 0 ∧ n = Int.ofNat (lenS s) ∧ i = 0 ∧ a = 0 ∧ b = 0 ∧ c = 0 ∧ d = 0 ∧ s.data.toList.all isDig = true ∧ lenS s ≤ 9223372036854775807)) (.br (rdRun s.data.toList 0).1
      (.leaf (.exit 0) (rdX.at [.i 0, .i (w0 (rdRun s.data.toList 0).2), .i (w1 (rdRun s.data.toList 0).2), .i (w2 (rdRun s.data.toList 0).2), .i (w3 (rdRun s.data.toList 0).2)]))
      (.leaf .ret (rdX.at [.i 3, .i (w0 (rdRun s.data.toList 0).2), .i (w1 (rdRun s.data.toList 0).2), .i (w2 (rdRun s.data.toList 0).2), .i (w3 (rdRun s.data.toList 0).2)]))) .no
  | _ => .no
noncomputable def rdL : Loops := sums (fun n => match n with | 7 => some (lsumF 0 rdT rdLp rdTree) | _ => none)
def bad20 : Option V := some (.tuple [nW 0, .int .i64 20])
noncomputable def rdRest (N : NR) (s : ByteArray) : Option V := bif N.trC s tens then bif !strEq (N.tr s) ⟨#[]⟩ then bad20 else
  cond (codesB [(rdLp, rdLp)]) (bif pB ((0 : Int) = 0 ∧ Int.ofNat (lenS s) = Int.ofNat (lenS s) ∧ (0 : Int) = 0 ∧ (0 : Int) = 0 ∧ (0 : Int) = 0 ∧ (0 : Int) = 0 ∧ (0 : Int) = 0 ∧ s.data.toList.all isDig = true ∧ lenS s ≤ 9223372036854775807) then
    bif (rdRun s.data.toList 0).1 then some (.tuple [nW (rdRun s.data.toList 0).2, .int .i64 0]) else some (.tuple [nW 0, .int .i64 3]) else none) none else none
theorem read_eval (N : NR) (s : ByteArray) : evalFn Tryd.prog (orcR N) rdL 200 18 Tryd.f18 [.str s] [] (fun v _ => some v) =
    bif strEq s ⟨#[]⟩ then bad20 else bif decide (1 < Int.ofNat (lenS s)) then oK s.data.toList[0]? (fun b => bif decide ((b.toNat : Int) = 48) then bad20 else rdRest N s) else rdRest N s := by kernel_rfl
end Go.Proofs.YthpdeiolhahobaaDoor
