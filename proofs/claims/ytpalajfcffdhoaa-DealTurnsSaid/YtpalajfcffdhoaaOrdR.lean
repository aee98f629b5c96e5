/- Chapter 6: order: one round. -/
import Derived.Test.YtpalajfcffdhoaaOth
namespace Go.Proofs.Ytpalajfcffdhoaa
open Go Go.Eng
noncomputable def odA : Code := rangeA 6 Try.f49
noncomputable def odB : Code := rangeB 6 Try.f49
def odF : TS := mkS [(3, .ptr 0 0), (4, .ptr 1 0), (5, .ptr 2 0), (6, .ptr 3 0), (7, .ptr 4 0), (8, .ptr 5 0)] 0 52
def z4 : TR := .vs [.lit .u32 0, .lit .u32 0, .lit .u32 0, .lit .u32 0]
noncomputable def odBl : List TB := [.own 23 u1, .own 30 z4, .own 30 n4, .own 3 i1, .own 3 i1, .own 30 n4, .own 23 u1, .defs, .loopB .ready 49 odF [24] odA odB 7]
noncomputable def odT : Tm := ⟨mkS [(0, .yield 8), (1, .ptr 6 0), (3, .int .u64)] 0 19, odBl, []⟩
noncomputable def odX : Tm := ⟨mkS [] 0 19, odBl, []⟩
noncomputable def odSt (e : XE) (l : List PV) : RT := some (e, l, [(odA, odA), (odB, odB)])
def bitI (r c : Int) : Int := bitsI .and .u64 (r.fdiv (2 ^ shAmt .u64 c)) 1
section
variable (N : N6) (K : Int → Int → Int → Bool) (W : Int → Int → Int → Int)
noncomputable def odK (r c g i0 i1 i2 i3 n k c0 c1 c2 c3 m f : Int) : RT :=
  bif decide (c < 0) then none else
  bif decide (bitI g c = 0) then bif decide (c < 0) then none else
      odSt .normal [.i (bitsI .andNot .u64 r (shlI c)), .i g, .i i0, .i i1, .i i2, .i i3, .i (wr .i64 (n - 1)), .i k, .i (N.w0 f), .i (N.w1 f), .i (N.w2 f), .i (N.w3 f), .i m]
    else bif N.inn i0 i1 i2 i3 && N.i f then bif N.inn c0 c1 c2 c3 && N.i f then bif decide (c < 0) then none else
      odSt .normal [.i (bitsI .andNot .u64 r (shlI c)), .i g, .i (N.w0 (N.add (N.z i0 i1 i2 i3) (N.q f))), .i (N.w1 (N.add (N.z i0 i1 i2 i3) (N.q f))), .i (N.w2 (N.add (N.z i0 i1 i2 i3) (N.q f))), .i (N.w3 (N.add (N.z i0 i1 i2 i3) (N.q f))),
        .i (wr .i64 (n - 1)), .i (wr .i64 (k - 1)), .i (N.w0 (N.sub (N.z c0 c1 c2 c3) (N.q f))), .i (N.w1 (N.sub (N.z c0 c1 c2 c3) (N.q f))), .i (N.w2 (N.sub (N.z c0 c1 c2 c3) (N.q f))), .i (N.w3 (N.sub (N.z c0 c1 c2 c3) (N.q f))), .i m]
    else none else none
noncomputable def odN (r c g i0 i1 i2 i3 n k c0 c1 c2 c3 m : Int) : RT := bif !decide (r = 0) then bif N.u r then
  bif N.inn c0 c1 c2 c3 && K (N.z c0 c1 c2 c3) n k then odK N r c g i0 i1 i2 i3 n k c0 c1 c2 c3 m (W (N.z c0 c1 c2 c3) n k) else none
  else none else odSt (.exit 0) [.i g, .i i0, .i i1, .i i2, .i i3, .i n, .i k, .i c0, .i c1, .i c2, .i c3, .i m]
theorem od_round (rd : Option Nat) (r g i0 i1 i2 i3 n k c0 c1 c2 c3 m : Int) : roundT Try.prog (orcN N (tabW N K W) plainL) noLoops 100 9 rd 85 sbLp odT odX [.i r, .i g, .i i0, .i i1, .i i2, .i i3, .i n, .i k, .i c0, .i c1, .i c2, .i c3, .i m] =
    odN N K W r (wr .i64 (N.len r - 1)) g i0 i1 i2 i3 n k c0 c1 c2 c3 m := by kernel_rfl
end
end Go.Proofs.Ytpalajfcffdhoaa
