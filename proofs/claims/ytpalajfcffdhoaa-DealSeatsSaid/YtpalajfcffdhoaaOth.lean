/- Texts merged: Oth, SubT, SubR. -/
import Derived.Test.YtpalajfcffdhoaaBase
import Derived.Test.YtpalajfcffdhoaaEng4
/- Chapter 6: others, without: their formulas. -/
namespace Go.Proofs.Ytpalajfcffdhoaa
open Go Go.Eng
section
variable (N : N6)
def nd1 (x : Int) : Int := wr .i64 (13 - N.oc x)
def cd3 (d : Int) : Int := wr .i64 (0 + nd1 N d)
def cd2 (c d : Int) : Int := wr .i64 (cd3 N d + nd1 N c)
def cd1 (b c d : Int) : Int := wr .i64 (cd2 N c d + nd1 N b)
def cd0 (a b c d : Int) : Int := wr .i64 (cd1 N b c d + nd1 N a)
def ow3 (d : Int) : Int := N.mul (N.z 1 0 0 0) (N.q (N.ch (cd3 N d) (nd1 N d)))
def ow2 (c d : Int) : Int := N.mul (N.q (ow3 N d)) (N.q (N.ch (cd2 N c d) (nd1 N c)))
def ow1 (b c d : Int) : Int := N.mul (N.q (ow2 N c d)) (N.q (N.ch (cd1 N b c d) (nd1 N b)))
def ow0 (a b c d : Int) : Int := N.mul (N.q (ow1 N b c d)) (N.q (N.ch (cd0 N a b c d) (nd1 N a)))
theorem oth_eval (a b c d : Int) : evalFn Try.prog (orcN N (tabN N) plainL) noLoops 100 29 Try.f29 [.agg [.int .u64 a, .int .u64 b, .int .u64 c, .int .u64 d]] [] (fun v _ => some v) =
    bif N.u d then bif N.inn 1 0 0 0 && N.i (N.ch (cd3 N d) (nd1 N d)) then bif N.u c then bif N.i (ow3 N d) && N.i (N.ch (cd2 N c d) (nd1 N c)) then
    bif N.u b then bif N.i (ow2 N c d) && N.i (N.ch (cd1 N b c d) (nd1 N b)) then bif N.u a then bif N.i (ow1 N b c d) && N.i (N.ch (cd0 N a b c d) (nd1 N a)) then
      some (.agg [.int .u32 (N.w0 (ow0 N a b c d)), .int .u32 (N.w1 (ow0 N a b c d)), .int .u32 (N.w2 (ow0 N a b c d)), .int .u32 (N.w3 (ow0 N a b c d)), .int .u32 (N.w0 (ow1 N b c d)), .int .u32 (N.w1 (ow1 N b c d)), .int .u32 (N.w2 (ow1 N b c d)), .int .u32 (N.w3 (ow1 N b c d)), .int .u32 (N.w0 (ow2 N c d)), .int .u32 (N.w1 (ow2 N c d)), .int .u32 (N.w2 (ow2 N c d)), .int .u32 (N.w3 (ow2 N c d)), .int .u32 (N.w0 (ow3 N d)), .int .u32 (N.w1 (ow3 N d)), .int .u32 (N.w2 (ow3 N d)), .int .u32 (N.w3 (ow3 N d)), .int .u32 1, .int .u32 0, .int .u32 0, .int .u32 0])
    else none else none else none else none else none else none else none else none := by kernel_rfl
def wtI (z n k : Int) : Int := N.quo (N.q (N.mul z (N.z (wr .u32 (wr .i64 (n - k))) 0 0 0))) (N.z (wr .u32 n) 0 0 0)
theorem wt_eval (a b c d n k : Int) : evalFn Try.prog (orcN N (tabN N) plainL) noLoops 100 63 Try.f63 [.agg [.int .u32 a, .int .u32 b, .int .u32 c, .int .u32 d], .int .i64 n, .int .i64 k] [] (fun v _ => some v) =
    bif N.inn a b c d && N.inn (wr .u32 (wr .i64 (n - k))) 0 0 0 then bif N.i (N.mul (N.z a b c d) (N.z (wr .u32 (wr .i64 (n - k))) 0 0 0)) && N.inn (wr .u32 n) 0 0 0 then some (N.nW (wtI N (N.z a b c d) n k)) else none else none := by kernel_rfl
end
end Go.Proofs.Ytpalajfcffdhoaa

/- Chapter 6: subset and order: the states of their loops. -/
namespace Go.Proofs.Ytpalajfcffdhoaa
open Go Go.Eng
def gWt (N : N6) (K : Int → Int → Int → Bool) (W : Int → Int → Int → Int) : List V → Option (Bool × V)
  | [.agg [.int .u32 a, .int .u32 b, .int .u32 c, .int .u32 d], .int .i64 n, .int .i64 k] => some (N.inn a b c d && K (N.z a b c d) n k, N.nW (W (N.z a b c d) n k))
  | _ => none
def tabW (N : N6) (K : Int → Int → Int → Bool) (W : Int → Int → Int → Int) : PTab := addTab 63 (gWt N K W) (tabN N)
def o : Option TV := none
def i1 : TR := .vs [.int .i64]
def u1 : TR := .vs [.int .u64]
def n4 : TR := .vs [.int .u32, .int .u32, .int .u32, .int .u32]
noncomputable def sbA : Code := rangeA 6 Try.f39
noncomputable def sbB : Code := rangeB 6 Try.f39
noncomputable def sbLp : Code := loopOf 1 Try.f85
def sbF : TS := mkS [(4, .ptr 0 0), (5, .ptr 1 0), (7, .ptr 2 0), (8, .ptr 3 0), (9, .ptr 4 0)] 0 56
noncomputable def sbBl (st : LSt) : List TB := [.own 3 i1, .own 30 n4, .own 23 u1, .own 3 i1, .own 30 n4, .own 23 u1, .defs, .loopB st 39 sbF [23] sbA sbB 6]
noncomputable def sbT : Tm := ⟨mkS [(0, .yield 7), (1, .ptr 5 0), (3, .int .u64)] 0 19, sbBl .ready, []⟩
noncomputable def sbX : Tm := ⟨mkS [] 0 19, sbBl .ready, []⟩
noncomputable def sbD : Tm := ⟨mkS [] 0 19, sbBl (.done (.exit 0)), []⟩
end Go.Proofs.Ytpalajfcffdhoaa

/- Chapter 6: subset: one round. -/
namespace Go.Proofs.Ytpalajfcffdhoaa
open Go Go.Eng
noncomputable def sbE : XE → Tm
  | .ret => sbD
  | _ => sbX
theorem sbE_ok : ∀ e, (sbE e).ok = true := fun e => by cases e <;> kernel_rfl
abbrev RT := Option (XE × List PV × List (Code × Code))
noncomputable def sbSt (e : XE) (l : List PV) : RT := some (e, l, [(sbA, sbA), (sbB, sbB)])
def shlI (c : Int) : Int := wr .u64 (1 * 2 ^ shAmt .u64 c)
section
variable (N : N6) (K : Int → Int → Int → Bool) (W : Int → Int → Int → Int)
noncomputable def sbK (r c k i0 i1 i2 i3 g n c0 c1 c2 c3 m f : Int) : RT :=
  bif N.inn i0 i1 i2 i3 && N.i f then
    bif decide (N.cmp (N.z i0 i1 i2 i3) (N.q f) < 0) then bif decide (c < 0) then none else
      sbSt .normal [.i (bitsI .andNot .u64 r (shlI c)), .i k, .i i0, .i i1, .i i2, .i i3, .i g, .i (wr .i64 (n - 1)), .i (N.w0 f), .i (N.w1 f), .i (N.w2 f), .i (N.w3 f), .i m]
    else bif decide (c < 0) then none else bif N.inn i0 i1 i2 i3 && N.i f then bif N.inn c0 c1 c2 c3 && N.i f then bif decide (c < 0) then none else
      sbSt .normal [.i (bitsI .andNot .u64 r (shlI c)), .i (wr .i64 (k - 1)), .i (N.w0 (N.sub (N.z i0 i1 i2 i3) (N.q f))), .i (N.w1 (N.sub (N.z i0 i1 i2 i3) (N.q f))), .i (N.w2 (N.sub (N.z i0 i1 i2 i3) (N.q f))), .i (N.w3 (N.sub (N.z i0 i1 i2 i3) (N.q f))),
        .i (bitsI .or .u64 g (shlI c)), .i (wr .i64 (n - 1)), .i (N.w0 (N.sub (N.z c0 c1 c2 c3) (N.q f))), .i (N.w1 (N.sub (N.z c0 c1 c2 c3) (N.q f))), .i (N.w2 (N.sub (N.z c0 c1 c2 c3) (N.q f))), .i (N.w3 (N.sub (N.z c0 c1 c2 c3) (N.q f))), .i m]
    else none else none
  else none
noncomputable def sbN (r c k i0 i1 i2 i3 g n c0 c1 c2 c3 m : Int) : RT := bif !decide (r = 0) then bif N.u r then
  bif decide (k = 0) then sbSt .ret [.i k, .i i0, .i i1, .i i2, .i i3, .i g, .i n, .i c0, .i c1, .i c2, .i c3, .i m]
  else bif N.inn c0 c1 c2 c3 && K (N.z c0 c1 c2 c3) n k then sbK N r c k i0 i1 i2 i3 g n c0 c1 c2 c3 m (W (N.z c0 c1 c2 c3) n k) else none
  else none else sbSt (.exit 0) [.i k, .i i0, .i i1, .i i2, .i i3, .i g, .i n, .i c0, .i c1, .i c2, .i c3, .i m]
theorem sb_round (rd : Option Nat) (r k i0 i1 i2 i3 g n c0 c1 c2 c3 m : Int) : roundX Try.prog (orcN N (tabW N K W) plainL) noLoops 100 8 rd 85 sbLp sbT sbT sbE [.i r, .i k, .i i0, .i i1, .i i2, .i i3, .i g, .i n, .i c0, .i c1, .i c2, .i c3, .i m] =
    sbN N K W r (wr .i64 (N.len r - 1)) k i0 i1 i2 i3 g n c0 c1 c2 c3 m := by kernel_rfl
end
end Go.Proofs.Ytpalajfcffdhoaa
