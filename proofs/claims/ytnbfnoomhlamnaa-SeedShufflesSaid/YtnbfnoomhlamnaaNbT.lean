/- Texts merged: NbT, NbR. -/
import Derived.Test.YtnbfnoomhlamnaaNext
import Derived.Test.YtnbfnoomhlamnaaNaRMul
/- Chapter 3: BelowNat: contracts of nat as names alone; the states of the loop in which it draws. -/
namespace Go.Proofs.Ytnbfnoomhlamnaa
open Go Go.Eng
/-- nat's functions, as names alone. -/
structure NB where
  w0 : Int → Int
  w1 : Int → Int
  w2 : Int → Int
  w3 : Int → Int
  z : Int → Int → Int → Int → Int
  inn : Int → Int → Int → Int → Bool
  add : Int → Int → Int
  addE : Int → Int → Int
  sub : Int → Int → Int
  subE : Int → Int → Int
  mul : Int → Int → Int
  mulE : Int → Int → Int
  quo : Int → Int → Int
  rem : Int → Int → Int
  divE : Int → Int
  cmp : Int → Int → Int
  /-- The loop's state and value: k, state, limit, value. -/
  ls : Nat → Int → Int → Int → Int
  lv : Nat → Int → Int → Int → Int
/-- A draw of so many values: the state and the sum. -/
def drawN : Nat → Int → Int → Int → Int × Int
  | 0, s, a, _ => (s, a)
  | k + 1, s, a, c => drawN k (mulP s 48271) (N2.addZ a (N2.mulZ c (mulP s 48271 - 1))) (N2.mulZ c 2147483646)
/-- The state and the value after at most so many draws more. -/
def natR (k : Nat) (m : Int) : Nat → Int → Int → Int × Int
  | 0, s, v => (s, v)
  | n + 1, s, v => bif decide (v < m) then (s, v) else natR k m n (drawN k s 0 1).1 (drawN k s 0 1).2
def nB : NB := ⟨N2.w0, N2.w1, N2.w2, N2.w3, N2.nval, N2.inN, N2.addZ, N2.addE, N2.subZ, N2.subE, N2.mulZ, N2.mulE, N2.divZ, N2.remZ, N2.divE, N2.cmpI, fun k s m v => (natR k m 100 s v).1, fun k s m v => (natR k m 100 s v).2⟩
def NB.nW (N : NB) (x : Int) : V := .agg [.int .u32 (N.w0 x), .int .u32 (N.w1 x), .int .u32 (N.w2 x), .int .u32 (N.w3 x)]
def gTwoB (N : NB) (F : Int → Int → V) : List V → Option (Bool × V)
  | [.agg [.int .u32 a, .int .u32 b, .int .u32 c, .int .u32 d], .agg [.int .u32 e, .int .u32 f, .int .u32 g, .int .u32 h]] => some (N.inn a b c d && N.inn e f g h, F (N.z a b c d) (N.z e f g h))
  | _ => none
def tabB (N : NB) : PTab := addTab 46 (gTwoB N fun x y => .tuple [N.nW (N.add x y), .int .i64 (N.addE x y)]) (addTab 44 (gTwoB N fun x y => .tuple [N.nW (N.sub x y), .int .i64 (N.subE x y)])
  (addTab 24 (gTwoB N fun x y => .tuple [N.nW (N.quo x y), N.nW (N.rem x y), .int .i64 (N.divE y)]) (addTab 21 (gTwoB N fun x y => .int .i64 (N.cmp x y)) emptyTab)))
def gMulB (N : NB) : List V → List Blk → Option (Bool × V × List Blk)
  | [.gs 0], [.rs true 4 (.ints .u32 [a, b, c, d, e, f, g, h])] => some (N.inn a b c d && N.inn e f g h, .tuple [N.nW (N.mul (N.z a b c d) (N.z e f g h)), .int .i64 (N.mulE (N.z a b c d) (N.z e f g h))], [])
  | _, _ => none
def hTabBn (N : NB) : HTab := addH 23 (gMulB N) emptyH
def dom23 : FuncId → Bool := fun f => Nat.beq f 23
noncomputable abbrev orcB (N : NB) (LL : FuncId → Loops) : Oracle := inl Try.prog ftab (tabB N) LL 200 never dom23 (hOrc (hTabBn N)) 20
noncomputable def nbLp : Code := loopOf 3 Try.f47
def i4 : TR := .vs [.int .u32, .int .u32, .int .u32, .int .u32]
def deads : Nat → List TB
  | 0 => []
  | n + 1 => .dead :: deads n
/-- The state in round: k values a draw; the blocks of BelowNat's first: the state, the number, the answer, the base, k, all; the slices of the products; two quotients, the limit. -/
def z4 : TR := .vs [.lit .u32 0, .lit .u32 0, .lit .u32 0, .lit .u32 0]
def nbT (k : Nat) : Tm := ⟨mkS [(0, .func 45 [.ptr 4 0, .ptr 0 0, .ptr 3 0]), (1, .func 48 [.ptr (7 + k) 0]), (4, .ptr (8 + k) 0), (5, .ptr (9 + k) 0), (8, .int .i64)] 0 17,
  [.own 22 (.vs [.int .i64]), .own 42 i4, .own 42 i4, .own 42 i4, .own 3 (.vs [.lit .i64 k]), .dead] ++ deads (k + 1) ++ [.own 42 i4, .own 42 z4, .own 42 i4], []⟩
def nbX (k : Nat) : Tm := ⟨mkS [(4, .ptr (8 + k) 0), (5, .ptr (9 + k) 0)] 0 17,
  [.own 22 (.vs [.int .i64]), .own 42 i4, .own 42 i4, .own 42 i4, .own 3 (.vs [.lit .i64 k]), .dead] ++ deads (k + 1) ++ [.own 42 i4, .own 42 z4, .own 42 i4], []⟩
end Go.Proofs.Ytnbfnoomhlamnaa

/- Chapter 3: BelowNat: one round of the loop in which it draws. -/
namespace Go.Proofs.Ytnbfnoomhlamnaa
open Go Go.Eng
abbrev RTb := Option (XE × List PV × List (Code × Code))
/-- A draw of so many values: the words of the sum and of the scale. -/
noncomputable def nbD {R : Type} (N : NB) (b0 b1 b2 b3 : Int) : Nat → Int → Int → Int → Int → Int → Int → Int → Int → Int → (Int → Int → Int → Int → Int → Option R) → Option R
  | 0, s, a0, a1, a2, a3, _, _, _, _, K => K s a0 a1 a2 a3
  | k + 1, s, a0, a1, a2, a3, c0, c1, c2, c3, K => bif N.inn c0 c1 c2 c3 && N.inn (wr .u32 (wr .i64 (mulP s 48271 - 1))) 0 0 0 then
      bif N.inn a0 a1 a2 a3 && N.inn (N.w0 (N.mul (N.z c0 c1 c2 c3) (N.z (wr .u32 (wr .i64 (mulP s 48271 - 1))) 0 0 0))) (N.w1 (N.mul (N.z c0 c1 c2 c3) (N.z (wr .u32 (wr .i64 (mulP s 48271 - 1))) 0 0 0))) (N.w2 (N.mul (N.z c0 c1 c2 c3) (N.z (wr .u32 (wr .i64 (mulP s 48271 - 1))) 0 0 0))) (N.w3 (N.mul (N.z c0 c1 c2 c3) (N.z (wr .u32 (wr .i64 (mulP s 48271 - 1))) 0 0 0))) then
      bif N.inn c0 c1 c2 c3 && N.inn b0 b1 b2 b3 then
        (fun A C => nbD N b0 b1 b2 b3 k (mulP s 48271) (N.w0 A) (N.w1 A) (N.w2 A) (N.w3 A) (N.w0 C) (N.w1 C) (N.w2 C) (N.w3 C) K)
          (N.add (N.z a0 a1 a2 a3) (N.z (N.w0 (N.mul (N.z c0 c1 c2 c3) (N.z (wr .u32 (wr .i64 (mulP s 48271 - 1))) 0 0 0))) (N.w1 (N.mul (N.z c0 c1 c2 c3) (N.z (wr .u32 (wr .i64 (mulP s 48271 - 1))) 0 0 0))) (N.w2 (N.mul (N.z c0 c1 c2 c3) (N.z (wr .u32 (wr .i64 (mulP s 48271 - 1))) 0 0 0))) (N.w3 (N.mul (N.z c0 c1 c2 c3) (N.z (wr .u32 (wr .i64 (mulP s 48271 - 1))) 0 0 0)))))
          (N.mul (N.z c0 c1 c2 c3) (N.z b0 b1 b2 b3)) else none else none else none
noncomputable def nbE (N : NB) (k : Nat) (i s n0 n1 n2 n3 r0 r1 r2 r3 b0 b1 b2 b3 m0 m1 m2 m3 v0 v1 v2 v3 : Int) : RTb :=
  bif decide (i < 100) then bif N.inn v0 v1 v2 v3 && N.inn m0 m1 m2 m3 then bif decide (N.cmp (N.z v0 v1 v2 v3) (N.z m0 m1 m2 m3) < 0) then some (.exit 0, [.i s, .i n0, .i n1, .i n2, .i n3, .i r0, .i r1, .i r2, .i r3, .i b0, .i b1, .i b2, .i b3, .i m0, .i m1, .i m2, .i m3, .i v0, .i v1, .i v2, .i v3], []) else
    nbD N b0 b1 b2 b3 k s 0 0 0 0 1 0 0 0 (fun s' a0 a1 a2 a3 => some (.normal, [.i (wr .i64 (i + 1)), .i s', .i n0, .i n1, .i n2, .i n3, .i r0, .i r1, .i r2, .i r3, .i b0, .i b1, .i b2, .i b3, .i m0, .i m1, .i m2, .i m3, .i a0, .i a1, .i a2, .i a3], [])) else none
  else some (.exit 0, [.i s, .i n0, .i n1, .i n2, .i n3, .i r0, .i r1, .i r2, .i r3, .i b0, .i b1, .i b2, .i b3, .i m0, .i m1, .i m2, .i m3, .i v0, .i v1, .i v2, .i v3], [])
theorem nb_round (N : NB) (rd : Option Nat) (i s n0 n1 n2 n3 r0 r1 r2 r3 b0 b1 b2 b3 m0 m1 m2 m3 v0 v1 v2 v3 : Int) : ∀ k : Nat, 1 ≤ k ∧ k ≤ 4 →
    roundT Try.prog (orcB N plainL) noLoops 200 (8 + k) rd 47 nbLp (nbT k) (nbX k) [.i i, .i s, .i n0, .i n1, .i n2, .i n3, .i r0, .i r1, .i r2, .i r3, .i b0, .i b1, .i b2, .i b3, .i m0, .i m1, .i m2, .i m3, .i v0, .i v1, .i v2, .i v3] =
      nbE N k i s n0 n1 n2 n3 r0 r1 r2 r3 b0 b1 b2 b3 m0 m1 m2 m3 v0 v1 v2 v3
  | 0, h => by omega
  | 1, _ => by kernel_rfl
  | 2, _ => by kernel_rfl
  | 3, _ => by kernel_rfl
  | 4, _ => by kernel_rfl
  | _ + 5, h => by omega
end Go.Proofs.Ytnbfnoomhlamnaa
