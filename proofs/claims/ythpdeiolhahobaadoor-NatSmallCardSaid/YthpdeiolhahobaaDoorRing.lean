/- Chapter 2: the law NatRing: its inner loop, over addition and multiplication. -/
import Derived.Test.YthpdeiolhahobaaDoorAwake
namespace Go.Proofs.YthpdeiolhahobaaDoor
open Go Go.Eng
/-- Numbers and their operations, as names alone. -/
structure NV where
  z : Int → Int → Int → Int → Int
  w0 : Int → Int
  w1 : Int → Int
  w2 : Int → Int
  w3 : Int → Int
  inn : Int → Int → Int → Int → Bool
  add : Int → Int → Int
  addE : Int → Int → Int
  mul : Int → Int → Int
  mulE : Int → Int → Int
def NV.nW (N : NV) (x : Int) : V := .agg [.int .u32 (N.w0 x), .int .u32 (N.w1 x), .int .u32 (N.w2 x), .int .u32 (N.w3 x)]
def gAddV (N : NV) : List V → Option (Bool × V)
  | [.agg [.int .u32 a, .int .u32 b, .int .u32 c, .int .u32 d], .agg [.int .u32 e, .int .u32 f, .int .u32 g, .int .u32 h]] => some (N.inn a b c d && N.inn e f g h, .tuple [N.nW (N.add (N.z a b c d) (N.z e f g h)), .int .i64 (N.addE (N.z a b c d) (N.z e f g h))])
  | _ => none
def gMulV (N : NV) : List V → List Blk → Option (Bool × V × List Blk)
  | [.gs 0], [.rs true 4 (.ints .u32 [a, b, c, d, e, f, g, h])] => some (N.inn a b c d && N.inn e f g h, .tuple [N.nW (N.mul (N.z a b c d) (N.z e f g h)), .int .i64 (N.mulE (N.z a b c d) (N.z e f g h))], [])
  | _, _ => none
def tabV (N : NV) : PTab := addTab 19 (gAddV N) (addTab 13 gAwake emptyTab)
def hTabV (N : NV) : HTab := addH 21 (gMulV N) emptyH
noncomputable abbrev orcV (N : NV) : Oracle := inl Tryd.prog ftab (tabV N) plainL 200 never hDomM (hOrc (hTabV N)) 20
noncomputable def rgLp : Code := loopOf 8 Tryd.f6
def u12 : List TV := [.int .u32, .int .u32, .int .u32, .int .u32, .int .u32, .int .u32, .int .u32, .int .u32, .int .u32, .int .u32, .int .u32, .int .u32]
def rgT : Tm := ⟨mkS [(15, .ptr 0 0), (16, .ptr 1 0), (17, .ptr 2 0), (53, .gs 4), (54, .lit .i64 2), (55, .int .i64), (65, .gs 3), (66, .lit .i64 2), (67, .int .i64)] 0 187, [.own 28 n4, .own 28 n4, .own 28 n4, .grow true 39 1 (.vs [.func 19 [], .func 20 []]), .grow true 37 12 (.vs (u12 ++ u12))], []⟩
def rgX : Tm := ⟨mkS [(15, .ptr 0 0), (16, .ptr 1 0), (17, .ptr 2 0), (53, .gs 3), (54, .lit .i64 2), (55, .int .i64)] 0 187, [.own 28 n4, .own 28 n4, .own 28 n4, .grow true 37 12 (.vs (u12 ++ u12))], []⟩
def NV.q4 (N : NV) (x : Int) : Int := N.z (N.w0 x) (N.w1 x) (N.w2 x) (N.w3 x)
def NV.iq (N : NV) (x : Int) : Bool := N.inn (N.w0 x) (N.w1 x) (N.w2 x) (N.w3 x)
def NV.eqN (N : NV) (x y : Int) : Bool := decide (N.w0 x = N.w0 y) && (decide (N.w1 x = N.w1 y) && (decide (N.w2 x = N.w2 y) && (decide (N.w3 x = N.w3 y) && true)))
def rgS (N : NV) (f g : Int → Int → Int) (A B C : Int) : Int := wr .i64 (wr .i64 (wr .i64 (g A B + g (N.q4 (f A B)) C) + g B C) + g A (N.q4 (f B C)))
def rgTail {α : Type} (N : NV) (f g : Int → Int → Int) (A B C : Int) (ia ib ic : Bool) (back next : Option α) : Option α :=
  bif N.iq (f A B) && ic then bif ib && ic then bif ia && N.iq (f B C) then bif decide (rgS N f g A B C = 0) then bif !N.eqN (f (N.q4 (f A B)) C) (f A (N.q4 (f B C))) then back else next else next else none else none else none
def rgAll {α : Type} (N : NV) (f g : Int → Int → Int) (A B C : Int) (ia ib ic : Bool) (back next : Option α) : Option α :=
  bif ia && ib then bif ib && ia then bif !N.eqN (f A B) (f B A) then back else bif !decide (g A B = g B A) then back else bif !decide (g A B = 0) then bif !decide (g A B = 3) then back else rgTail N f g A B C ia ib ic back next else rgTail N f g A B C ia ib ic back next else none else none
theorem rg_round0 (N : NV) (rd : Option Nat) (q a b c d e f g h i j k l y0 y1 y2 y3 y4 y5 y6 y7 y8 y9 y10 y11 y12 y13 y14 y15 y16 y17 y18 y19 y20 y21 y22 y23 : Int) : roundT Tryd.prog (orcV N) noLoops 200 0 rd 6 rgLp rgT rgX [.i q, .i 0, .i a, .i b, .i c, .i d, .i e, .i f, .i g, .i h, .i i, .i j, .i k, .i l, .i y0, .i y1, .i y2, .i y3, .i y4, .i y5, .i y6, .i y7, .i y8, .i y9, .i y10, .i y11, .i y12, .i y13, .i y14, .i y15, .i y16, .i y17, .i y18, .i y19, .i y20, .i y21, .i y22, .i y23] =
    rgAll N N.add N.addE (N.z a b c d) (N.z e f g h) (N.z i j k l) (N.inn a b c d) (N.inn e f g h) (N.inn i j k l) (some (.ret, [.i q, .i a, .i b, .i c, .i d, .i e, .i f, .i g, .i h, .i i, .i j, .i k, .i l, .i y0, .i y1, .i y2, .i y3, .i y4, .i y5, .i y6, .i y7, .i y8, .i y9, .i y10, .i y11, .i y12, .i y13, .i y14, .i y15, .i y16, .i y17, .i y18, .i y19, .i y20, .i y21, .i y22, .i y23], [])) (some (.normal, [.i q, .i 1, .i a, .i b, .i c, .i d, .i e, .i f, .i g, .i h, .i i, .i j, .i k, .i l, .i y0, .i y1, .i y2, .i y3, .i y4, .i y5, .i y6, .i y7, .i y8, .i y9, .i y10, .i y11, .i y12, .i y13, .i y14, .i y15, .i y16, .i y17, .i y18, .i y19, .i y20, .i y21, .i y22, .i y23], [])) := by kernel_rfl
theorem rg_round1 (N : NV) (rd : Option Nat) (q a b c d e f g h i j k l y0 y1 y2 y3 y4 y5 y6 y7 y8 y9 y10 y11 y12 y13 y14 y15 y16 y17 y18 y19 y20 y21 y22 y23 : Int) : roundT Tryd.prog (orcV N) noLoops 200 0 rd 6 rgLp rgT rgX [.i q, .i 1, .i a, .i b, .i c, .i d, .i e, .i f, .i g, .i h, .i i, .i j, .i k, .i l, .i y0, .i y1, .i y2, .i y3, .i y4, .i y5, .i y6, .i y7, .i y8, .i y9, .i y10, .i y11, .i y12, .i y13, .i y14, .i y15, .i y16, .i y17, .i y18, .i y19, .i y20, .i y21, .i y22, .i y23] =
    rgAll N N.mul N.mulE (N.z a b c d) (N.z e f g h) (N.z i j k l) (N.inn a b c d) (N.inn e f g h) (N.inn i j k l) (some (.ret, [.i q, .i a, .i b, .i c, .i d, .i e, .i f, .i g, .i h, .i i, .i j, .i k, .i l, .i y0, .i y1, .i y2, .i y3, .i y4, .i y5, .i y6, .i y7, .i y8, .i y9, .i y10, .i y11, .i y12, .i y13, .i y14, .i y15, .i y16, .i y17, .i y18, .i y19, .i y20, .i y21, .i y22, .i y23], [])) (some (.normal, [.i q, .i 2, .i a, .i b, .i c, .i d, .i e, .i f, .i g, .i h, .i i, .i j, .i k, .i l, .i y0, .i y1, .i y2, .i y3, .i y4, .i y5, .i y6, .i y7, .i y8, .i y9, .i y10, .i y11, .i y12, .i y13, .i y14, .i y15, .i y16, .i y17, .i y18, .i y19, .i y20, .i y21, .i y22, .i y23], [])) := by kernel_rfl
theorem rg_round2 (N : NV) (rd : Option Nat) (q a b c d e f g h i j k l y0 y1 y2 y3 y4 y5 y6 y7 y8 y9 y10 y11 y12 y13 y14 y15 y16 y17 y18 y19 y20 y21 y22 y23 : Int) : roundT Tryd.prog (orcV N) noLoops 200 0 rd 6 rgLp rgT rgX [.i q, .i 2, .i a, .i b, .i c, .i d, .i e, .i f, .i g, .i h, .i i, .i j, .i k, .i l, .i y0, .i y1, .i y2, .i y3, .i y4, .i y5, .i y6, .i y7, .i y8, .i y9, .i y10, .i y11, .i y12, .i y13, .i y14, .i y15, .i y16, .i y17, .i y18, .i y19, .i y20, .i y21, .i y22, .i y23] = some (.exit 2, [.i q, .i a, .i b, .i c, .i d, .i e, .i f, .i g, .i h, .i i, .i j, .i k, .i l, .i y0, .i y1, .i y2, .i y3, .i y4, .i y5, .i y6, .i y7, .i y8, .i y9, .i y10, .i y11, .i y12, .i y13, .i y14, .i y15, .i y16, .i y17, .i y18, .i y19, .i y20, .i y21, .i y22, .i y23], []) := by kernel_rfl
end Go.Proofs.YthpdeiolhahobaaDoor
