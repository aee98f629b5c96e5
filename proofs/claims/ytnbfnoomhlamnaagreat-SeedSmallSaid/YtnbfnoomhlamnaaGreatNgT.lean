/- Texts merged: NgT, NgF. -/
import Derived.Test.YtnbfnoomhlamnaaGreatNbP
import Derived.Test.YtnbfnoomhlamnaaGreatNaRP
/- Chapter 3: SeedWide: the contracts as names. -/
namespace Go.Proofs.YtnbfnoomhlamnaaGreat
open Go Go.Eng
/-- The functions that SeedWide calls, as names alone. -/
structure NG where
  B : NB
  of : Int → Int
  bs : Int → Int → Int
  bv : Int → Int → Int
  be : Int → Int → Int
  ns : Int → Int
  nv : Int → Int
  ne : Int → Int
  zs : Int → Int → Int
  zv : Int → Int → Int
  ze : Int → Int → Int
  ofz : Int → Int
  ofe : Int → Int
  inz : Int → Int
  ine : Int → Int
  fit : Int → Bool
def fitI (n : Int) : Bool := decide (-9223372036854775808 ≤ n) && decide (n < 9223372036854775808)
def nG : NG := ⟨nB, ofI, belowS, belowV, fun s n => errI (!belowB s n), nextS, nextV, fun s => errI (rightB s), natS, natV, fun s z => errI (!natBz s z), N2.ofZ, N2.ofE, N2.intZ, N2.intE, fitI⟩
def gBelowG (G : NG) : List V → Option (Bool × V)
  | [.int .i64 s, .int .i64 n] => some (true, .tuple [.int .i64 (G.bs s n), .int .i64 (G.bv s n), .int .i64 (G.be s n)])
  | _ => none
def gNextG (G : NG) : List V → Option (Bool × V)
  | [.int .i64 s] => some (true, .tuple [.int .i64 (G.ns s), .int .i64 (G.nv s), .int .i64 (G.ne s)])
  | _ => none
def gOfG (G : NG) : List V → Option (Bool × V)
  | [.int .i64 n] => some (true, .int .i64 (G.of n))
  | _ => none
def gNatG (G : NG) : List V → Option (Bool × V)
  | [.int .i64 s, .agg [.int .u32 a, .int .u32 b, .int .u32 c, .int .u32 d]] => some (G.B.inn a b c d, .tuple [.int .i64 (G.zs s (G.B.z a b c d)), G.B.nW (G.zv s (G.B.z a b c d)), .int .i64 (G.ze s (G.B.z a b c d))])
  | _ => none
def gOf22 (G : NG) : List V → Option (Bool × V)
  | [.int .i64 n] => some (G.fit n, .tuple [G.B.nW (G.ofz n), .int .i64 (G.ofe n)])
  | _ => none
def gInt25 (G : NG) : List V → Option (Bool × V)
  | [.agg [.int .u32 a, .int .u32 b, .int .u32 c, .int .u32 d]] => some (G.B.inn a b c d, .tuple [.int .i64 (G.inz (G.B.z a b c d)), .int .i64 (G.ine (G.B.z a b c d))])
  | _ => none
end Go.Proofs.YtnbfnoomhlamnaaGreat

/- Chapter 3: SeedWide: its formula, and that it is true. -/
namespace Go.Proofs.YtnbfnoomhlamnaaGreat
open Go Go.Eng
def ng3 (G : NG) (s : Int) : Option V :=
  bif G.B.inn 2147483646 0 0 0 && G.B.inn 2147483646 0 0 0 then G.B.ws (G.B.mul (G.B.z 2147483646 0 0 0) (G.B.z 2147483646 0 0 0)) fun q0 q1 q2 q3 =>
    bif G.B.inn q0 q1 q2 q3 then G.B.ws (G.zv s (G.B.z q0 q1 q2 q3)) fun v0 v1 v2 v3 => bif G.B.inn v0 v1 v2 v3 && G.B.inn 2147483646 0 0 0 then
      G.B.ws (G.B.rem (G.B.z v0 v1 v2 v3) (G.B.z 2147483646 0 0 0)) fun r0 r1 r2 r3 => bif G.B.inn r0 r1 r2 r3 then
        G.B.ws (G.B.quo (G.B.z v0 v1 v2 v3) (G.B.z 2147483646 0 0 0)) fun h0 h1 h2 h3 => bif G.B.inn h0 h1 h2 h3 then
          bif decide (wr .i64 (wr .i64 (wr .i64 (wr .i64 (wr .i64 (wr .i64 (G.B.mulE (G.B.z 2147483646 0 0 0) (G.B.z 2147483646 0 0 0) + G.ze s (G.B.z q0 q1 q2 q3)) + G.B.divE (G.B.z 2147483646 0 0 0)) + G.ne s) + G.ne (G.ns s)) + G.ine (G.B.z r0 r1 r2 r3)) + G.ine (G.B.z h0 h1 h2 h3)) = 0) then
            bif decide (G.zs s (G.B.z q0 q1 q2 q3) = G.ns (G.ns s)) then bif decide (G.inz (G.B.z r0 r1 r2 r3) = G.nv s) then some (.bool (decide (G.inz (G.B.z h0 h1 h2 h3) = G.nv (G.ns s)))) else some (.bool false) else some (.bool false) else some (.bool false)
        else none else none else none else none else none
def ng2 (G : NG) (s K : Int) : Option V :=
  bif G.fit K then G.B.ws (G.ofz K) fun k0 k1 k2 k3 => bif G.B.inn k0 k1 k2 k3 then bif G.fit (G.bv s K) then
    bif !decide (wr .i64 (wr .i64 (wr .i64 (G.ofe K + G.be s K) + G.ze s (G.B.z k0 k1 k2 k3)) + G.ofe (G.bv s K)) = 0) then some (.bool false) else
    bif !decide (G.bs s K = G.zs s (G.B.z k0 k1 k2 k3)) then some (.bool false) else
    G.B.ws (G.zv s (G.B.z k0 k1 k2 k3)) fun x0 x1 x2 x3 => G.B.ws (G.ofz (G.bv s K)) fun y0 y1 y2 y3 =>
    bif !(decide (x0 = y0) && (decide (x1 = y1) && (decide (x2 = y2) && (decide (x3 = y3) && true)))) then some (.bool false) else ng3 G s
  else none else none else none
def ng1 (G : NG) (s m0 m1 m2 m3 sm : Int) : Option V :=
  bif G.B.inn m0 m1 m2 m3 then bif !decide (G.ze s (G.B.z m0 m1 m2 m3) = 0) then some (.bool false) else
    G.B.ws (G.zv s (G.B.z m0 m1 m2 m3)) fun v0 v1 v2 v3 => bif G.B.inn v0 v1 v2 v3 && G.B.inn m0 m1 m2 m3 then
      bif decide (0 ≤ G.B.cmp (G.B.z v0 v1 v2 v3) (G.B.z m0 m1 m2 m3)) then some (.bool false) else
      bif decide (sm.tmod 2147483646 < 0) then ng2 G s (wr .i64 (1 + wr .i64 (sm.tmod 2147483646 + 2147483646))) else ng2 G s (wr .i64 (1 + sm.tmod 2147483646)) else none else none
end Go.Proofs.YtnbfnoomhlamnaaGreat
