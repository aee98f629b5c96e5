/- Chapter 3: SeedWide: the contracts as names. -/
import Derived.Test.YtnbfnoomhlamnaaNbP
import Derived.Test.YtnbfnoomhlamnaaNaOf
namespace Go.Proofs.Ytnbfnoomhlamnaa
open Go Go.Eng
/-- The functions that SeedWide calls, as names alone. -/
structure NG where
  B : NB
  of : Int → Int
  bs : Int → Int → Int
  bv : Int → Int → Int
  be : Int → Int → Int
  ns : Int → Int
  nv : Int → Int
  ne : Int → Int
  zs : Int → Int → Int
  zv : Int → Int → Int
  ze : Int → Int → Int
  ofz : Int → Int
  ofe : Int → Int
  inz : Int → Int
  ine : Int → Int
  fit : Int → Bool
def fitI (n : Int) : Bool := decide (-9223372036854775808 ≤ n) && decide (n < 9223372036854775808)
def nG : NG := ⟨nB, ofI, belowS, belowV, fun s n => errI (!belowB s n), nextS, nextV, fun s => errI (rightB s), natS, natV, fun s z => errI (!natBz s z), N2.ofZ, N2.ofE, N2.intZ, N2.intE, fitI⟩
def gBelowG (G : NG) : List V → Option (Bool × V)
  | [.int .i64 s, .int .i64 n] => some (true, .tuple [.int .i64 (G.bs s n), .int .i64 (G.bv s n), .int .i64 (G.be s n)])
  | _ => none
def gNextG (G : NG) : List V → Option (Bool × V)
  | [.int .i64 s] => some (true, .tuple [.int .i64 (G.ns s), .int .i64 (G.nv s), .int .i64 (G.ne s)])
  | _ => none
def gOfG (G : NG) : List V → Option (Bool × V)
  | [.int .i64 n] => some (true, .int .i64 (G.of n))
  | _ => none
def gNatG (G : NG) : List V → Option (Bool × V)
  | [.int .i64 s, .agg [.int .u32 a, .int .u32 b, .int .u32 c, .int .u32 d]] => some (G.B.inn a b c d, .tuple [.int .i64 (G.zs s (G.B.z a b c d)), G.B.nW (G.zv s (G.B.z a b c d)), .int .i64 (G.ze s (G.B.z a b c d))])
  | _ => none
def gOf22 (G : NG) : List V → Option (Bool × V)
  | [.int .i64 n] => some (G.fit n, .tuple [G.B.nW (G.ofz n), .int .i64 (G.ofe n)])
  | _ => none
def gInt25 (G : NG) : List V → Option (Bool × V)
  | [.agg [.int .u32 a, .int .u32 b, .int .u32 c, .int .u32 d]] => some (G.B.inn a b c d, .tuple [.int .i64 (G.inz (G.B.z a b c d)), .int .i64 (G.ine (G.B.z a b c d))])
  | _ => none
def tabG (G : NG) : PTab := addTab 11 gAwake (addTab 12 (gOfG G) (addTab 14 (gNextG G) (addTab 17 (gBelowG G) (addTab 20 (gNatG G) (addTab 22 (gOf22 G) (addTab 25 (gInt25 G) (tabB G.B)))))))
noncomputable abbrev orcG (G : NG) : Oracle := inl Try.prog ftab (tabG G) plainL 200 never dom23 (hOrc (hTabBn G.B)) 20
theorem tabG_ok : PTabOk Try.prog (tabG nG) := by
  refine addTab_ok gAwake_ok (addTab_ok gOf_ok (addTab_ok ?_ (addTab_ok ?_ (addTab_ok ?_ (addTab_ok ?_ (addTab_ok ?_ tabB_ok))))))
  · intro args c v h _
    unfold gNextG at h
    split at h
    · cases h; exact next_pure _
    · cases h
  · intro args c v h _
    unfold gBelowG at h
    split at h
    · cases h; exact below_pure _ _
    · cases h
  · intro args c v h hc
    unfold gNatG at h
    split at h
    · cases h; exact nat_pure hc
    · cases h
  · intro args c v h hc
    unfold gOf22 at h
    split at h
    · cases h
      have hc' : fitI _ = true := hc
      simp only [fitI, Bool.and_eq_true, decide_eq_true_eq] at hc'
      exact N2.of_p hc'
    · cases h
  · intro args c v h hc
    unfold gInt25 at h
    split at h
    · cases h; exact N2.int_p hc
    · cases h
theorem orcG_ok : OracleOk Try.prog (orcG nG) := inl_ok (hOrc_ok hTabBn_ok) ftab_ok tabG_ok plainL_ok mixed 20
end Go.Proofs.Ytnbfnoomhlamnaa
