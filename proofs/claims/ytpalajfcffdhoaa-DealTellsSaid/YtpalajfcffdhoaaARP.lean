/- Texts merged: ARP, AOf, ARAdd, ARMul, E9. -/
import Derived.Test.YtpalajfcffdhoaaAR14
import Derived.Test.YtpalajfcffdhoaaANat8
import Derived.Test.YtpalajfcffdhoaaE6
/- Chapter 2, the reference: Read: the states of its loop. -/
namespace Go.Proofs.Ytpalajfcffdhoaa.N2
open Go Go.Eng
def gParts (N : Int → Int) (E : Int → Int) (ok : List Int → Bool) (vl : List Int → Int) : List V → List Blk → Option (Bool × V × List Blk)
  | [.gs 0], [.rs _ 1 (.ints .i64 xs)] => some (ok xs, .tuple [nW (N (vl xs)), .int .i64 (E (vl xs))], [])
  | _, _ => none
def okP (xs : List Int) : Bool := isD xs && decide (xs.length ≤ 999999)
def hTabP : HTab := addH 98 (gParts ptZ ptE okP val) (hTabE E0)
theorem hTabP_ok : HTabOk Try.prog hTabP := by
  refine addH_ok ?_ hTabE_ok
  intro args h c v nb hq hc
  unfold gParts at hq
  split at hq
  · rename_i n1 xs
    cases hq; exact ⟨.of Try.func98 (by kernel_rfl), parts_fn n1 hc⟩
  · cases hq
def domP : FuncId → Bool := fun f => Nat.beq f 98 || domE f
noncomputable abbrev orcPt (LL : FuncId → Loops) : Oracle := inl Try.prog ftab tabA LL 200 never domP (orElse domT (resOrc rTab) (hOrcP nrI hTabP)) 20
theorem orcPt_ok {LL : FuncId → Loops} (hL : ∀ f, loopsOk Try.prog (LL f)) : OracleOk Try.prog (orcPt LL) := inl_ok (orElse_ok (resOrc_ok rTab_ok) (hOrcP_ok hTabP_ok)) ftab_ok tabA_ok hL mixed 20
noncomputable abbrev orcQ (HT : HTab) : Oracle := inl Try.prog ftab tabA plainL 200 never domP (orElse domT (resOrc rTab) (hOrcP nrI HT)) 20
theorem orcQ_ok {HT : HTab} (hT : HTabOk Try.prog HT) : OracleOk Try.prog (orcQ HT) := inl_ok (orElse_ok (resOrc_ok rTab_ok) (hOrcP_ok hT)) ftab_ok tabA_ok plainL_ok mixed 20
end Go.Proofs.Ytpalajfcffdhoaa.N2

/- Chapter 2: Of and Int; the law NatWrong: its formula. -/
namespace Go.Proofs.Ytpalajfcffdhoaa.N2
open Go Go.Eng
theorem bv64 (n : Nat) (h : n < 18446744073709551616) : (BitVec.ofInt 64 (n : Int)).toNat = n := by
  simp only [BitVec.toNat_ofInt]; omega
theorem or64 {a b : Nat} (ha : a < 18446744073709551616) (hb : b < 18446744073709551616) : bitsI .or .u64 (a : Int) (b : Int) = ((a ||| b : Nat) : Int) := by
  unfold bitsI
  show wr .u64 (((BitVec.ofInt 64 (a : Int) ||| BitVec.ofInt 64 (b : Int)).toNat : Nat) : Int) = _
  rw [BitVec.toNat_or, bv64 a ha, bv64 b hb]
  have := Nat.or_lt_two_pow (n := 64) ha hb
  exact wrU (by omega) (by omega)
/-! ### Of, Int -/
def ofZ (n : Int) : Int := bif decide (n < 0) then 0 else n
def ofE (n : Int) : Int := bif decide (n < 0) then 21 else 0
def intZ (z : Int) : Int := bif decide (z < 9223372036854775808) then z else 0
def intE (z : Int) : Int := bif decide (z < 9223372036854775808) then 0 else 3
def lowI (a b : Int) : Int := bitsI .or .u64 (wr .u64 (wr .u64 b * 2 ^ shAmt .u64 32)) (wr .u64 a)
end Go.Proofs.Ytpalajfcffdhoaa.N2

/- Chapter 2, the reference: Add, Sub, Cmp, Int, Of: the same results as nat's own. -/
namespace Go.Proofs.Ytpalajfcffdhoaa.N2
open Go Go.Eng
def hTabZ (N : NE) (Z E : Int → Int) (ok : List Int → Bool) (vl : List Int → Int) : HTab := addH 98 (gParts Z E ok vl) (hTabE N)
theorem hTabZ_ok : HTabOk Try.prog (hTabZ E0 ptZ ptE okP val) := hTabP_ok
def outN (Z E : Int → Int) (ok : List Int → Bool) (vl : List Int → Int) (l : List Int) : Option V := bif ok l then some (.tuple [nW (Z (vl l)), .int .i64 (E (vl l))]) else none
abbrev nat2 (a b c d e f g h : Int) : List V := [.agg [.int .u32 a, .int .u32 b, .int .u32 c, .int .u32 d], .agg [.int .u32 e, .int .u32 f, .int .u32 g, .int .u32 h]]
theorem rof_eval (N : NE) (Z E : Int → Int) (ok : List Int → Bool) (vl : List Int → Int) (n : Int) : evalFn Try.prog (orcQ (hTabZ N Z E ok vl)) noLoops 200 88 Try.f88 [.int .i64 n] [] (fun v _ => some v) =
    bif decide (n < 0) then some (.tuple [nW 0, .int .i64 21]) else bif N.n.okI n then outN Z E ok vl (N.n.D n) else none := by kernel_rfl
theorem out_D {n K : Nat} (h : n < 10 ^ K) (hK : K ≤ 999999) : outN ptZ ptE okP val (D n) = some (.tuple [nW (ptZ n), .int .i64 (ptE n)]) := by
  have := D_len_lt h
  unfold outN okP
  rw [isD_D, decide_eq_true (by omega), val_D]; rfl
theorem dg_nat {a b c d : Int} (h : inN a b c d = true) : ∃ n : Nat, nval a b c d = (n : Int) ∧ E0.dg a b c d = D n ∧ n < 340282366920938463463374607431768211456 ∧ E0.n.ok (D n) = true := by
  have hr := nval_range h
  refine ⟨(nval a b c d).toNat, by omega, rfl, by omega, ?_⟩
  exact okD_lt (by omega)
theorem rof_p {n : Int} (h : -9223372036854775808 ≤ n ∧ n < 9223372036854775808) : FnPure Try.prog 88 [.int .i64 n] (.tuple [nW (ofZ n), .int .i64 (ofE n)]) := by
  refine fnPure_of_eval (N := 200) (orcQ_ok hTabZ_ok) mixed Try.func88 (by kernel_rfl) noLoops_ok ?_ rfl rfl
  rw [rof_eval]
  unfold ofZ ofE
  by_cases h0 : n < 0
  · rw [decide_eq_true h0]; rfl
  · have k1 : E0.n.okI n = true := by rw [show E0.n.okI = okID from rfl]; unfold okID; rw [decide_eq_true (by omega)]
    rw [decide_eq_false h0, cond_false, k1, cond_true, show E0.n.D n = D n.toNat from rfl, out_D (n := n.toNat) (K := 19) (by omega) (by decide)]
    unfold ptZ ptE
    rw [decide_eq_true (show ((n.toNat : Nat) : Int) < 340282366920938463463374607431768211456 by omega), show ((n.toNat : Nat) : Int) = n by omega]; rfl
end Go.Proofs.Ytpalajfcffdhoaa.N2

/- Chapter 2, the reference: Mul of two. -/
namespace Go.Proofs.Ytpalajfcffdhoaa.N2
open Go Go.Eng
theorem rmul_eval (N : NE) (Z E : Int → Int) (ok : List Int → Bool) (vl : List Int → Int) (a b c d e f g h : Int) : evalFn Try.prog (orcQ (hTabZ N Z E ok vl)) noLoops 200 100 Try.f100 [.gs 0] [.rs true 4 (.ints .u32 [a, b, c, d, e, f, g, h])] keepV =
    bif N.inn a b c d then bif N.n.ok [1] && N.n.ok (N.dg a b c d) then bif N.inn e f g h then bif N.n.ok (N.n.prod [1] (N.dg a b c d)) && N.n.ok (N.dg e f g h) then outN Z E ok vl (N.n.prod (N.n.prod [1] (N.dg a b c d)) (N.dg e f g h)) else none else none else none else none := by kernel_rfl
theorem row_ro {l : List Int} : ∀ (b : Nat) blk, ([.rs true 4 (.ints .u32 l)] : List Blk)[b]? = some blk → blk.mine = false := by
  intro b blk hb
  match b, hb with
  | 0, hb => cases hb; rfl
  | _ + 1, hb => simp at hb
theorem pt_mul (m n : Nat) : ptZ ((m * n : Nat) : Int) = mulZ (m : Int) (n : Int) ∧ ptE ((m * n : Nat) : Int) = mulE (m : Int) (n : Int) := by
  unfold ptZ ptE mulZ mulE
  rw [Int.natCast_mul]
  exact ⟨rfl, rfl⟩
theorem rmul_fn {a b c d e f g h : Int} (hx : inN a b c d = true) (hy : inN e f g h = true) :
    FnOK Try.prog 100 [.gs 0] [.rs true 4 (.ints .u32 [a, b, c, d, e, f, g, h])] (.tuple [nW (mulZ (nval a b c d) (nval e f g h)), .int .i64 (mulE (nval a b c d) (nval e f g h))]) [.rs true 4 (.ints .u32 [a, b, c, d, e, f, g, h])] := by
  have key : evalFn Try.prog (orcQ (hTabZ E0 ptZ ptE okP val)) noLoops 200 100 Try.f100 [.gs 0] [.rs true 4 (.ints .u32 [a, b, c, d, e, f, g, h])] keepV = some (.tuple [nW (mulZ (nval a b c d) (nval e f g h)), .int .i64 (mulE (nval a b c d) (nval e f g h))]) := by
    rw [rmul_eval, show E0.inn = inN from rfl, hx, hy]
    obtain ⟨m, hm, em, lm, km⟩ := dg_nat hx
    obtain ⟨n, hn, en, ln, kn⟩ := dg_nat hy
    have k1 : E0.n.ok [1] = true := by
      have : E0.n.ok (D 1) = true := okD_lt (n := 1) (by omega)
      exact this
    have p1 : E0.n.prod [1] (D m) = D m := by
      rw [show E0.n.prod = prodD from rfl, show ([1] : List Int) = D 1 from rfl, prodD_D, Nat.one_mul]
    have p2 : E0.n.prod (D m) (D n) = D (m * n) := by
      rw [show E0.n.prod = prodD from rfl, prodD_D]
    have hlt : m * n < 10 ^ 78 := Nat.lt_of_le_of_lt (Nat.mul_le_mul (Nat.le_of_lt lm) (Nat.le_of_lt ln)) (by decide)
    rw [em, en, k1, km, kn, p1, km, p2, out_D hlt (by decide), hm, hn, (pt_mul m n).1, (pt_mul m n).2]
    rfl
  obtain ⟨v1, h1, hk, hok⟩ := evalFn_ok (orcQ_ok hTabZ_ok) mixed Try.func100 noLoops_ok key
  simp only [keepV, Option.some.injEq] at hk
  subst hk
  exact hok.plain rfl row_ro
end Go.Proofs.Ytpalajfcffdhoaa.N2

/- Chapter 6, the reference: product, Ways: formulas over names. -/
namespace Go.Proofs.Ytpalajfcffdhoaa
open Go Go.Eng Go.Deal
structure EW where
  n : N6
  u4 : Int → Int → Int → Int → Bool
  lf : Int → Int → Int → Int → Int
  le : Int → Int → Int → Int → Int
  ma : Int → Int
  ck : Int → Int → Bool
  ch : Int → Int → Int
  ofk : Int → Bool
  of : Int → Int
  ofe : Int → Int
section
variable (E : EW)
def hTabR (N : N6) : HTab := addH 100 (gMul N) emptyH
def domR : FuncId → Bool := fun f => Nat.beq f 100
noncomputable abbrev orcR (N : N6) (T : PTab) : Oracle := inl Try.prog ftab T plainL 100 never domR (hOrcP nrN (hTabR N)) 20
def n44 (a b c d e f g h : Int) : List V := [.agg [.int .u32 a, .int .u32 b, .int .u32 c, .int .u32 d], .agg [.int .u32 e, .int .u32 f, .int .u32 g, .int .u32 h]]
theorem prod_eval (N : N6) (a b c d e f g h : Int) : evalFn Try.prog (orcR N emptyTab) noLoops 100 90 Try.f90 (n44 a b c d e f g h) [] (fun v _ => some v) =
    bif N.inn a b c d && N.inn e f g h then some (N.nW (N.mul (N.z a b c d) (N.z e f g h))) else none := by kernel_rfl
def wLf : List V → Option (Bool × V)
  | [.agg [.int .u64 a, .int .u64 b, .int .u64 c, .int .u64 d]] => some (E.u4 a b c d, .tuple [.int .u64 (E.lf a b c d), .int .i64 (E.le a b c d)])
  | _ => none
def wMa : List V → Option (Bool × V)
  | [.int .u64 m] => some (E.n.u m, .int .i64 (E.ma m))
  | _ => none
def wCh : List V → Option (Bool × V)
  | [.int .i64 n, .int .i64 k] => some (E.ck n k, .int .i64 (E.ch n k))
  | _ => none
def wOf : List V → Option (Bool × V)
  | [.int .i64 n] => some (E.ofk n, .tuple [E.n.nW (E.of n), .int .i64 (E.ofe n)])
  | _ => none
def tabW6 : PTab := addTab 41 (wLf E) (addTab 67 (wMa E) (addTab 89 (wCh E) (addTab 88 (wOf E) (addTab 90 (gTwo E.n fun x y => E.n.nW (E.n.mul x y)) emptyTab))))
noncomputable abbrev orcW6 : Oracle := orcN E.n (tabW6 E) plainL
def wlk (x : Int) : Int := wr .i64 (13 - E.ma x)
def wyS (n out l : Int) (K : Int → Int → Option V) : Option V :=
  bif E.ck n l then bif E.ofk (E.ch n l) then bif E.n.i out && E.n.i (E.of (E.ch n l)) then K (wr .i64 (n - l)) (E.n.mul (E.n.q out) (E.n.q (E.of (E.ch n l)))) else none else none else none
def wyF (a b c d m : Int) : Option V := bif E.n.u m then bif E.n.u a then bif E.n.u b then bif E.n.u c then bif E.n.u d then bif E.ofk 1 then
  wyS E (E.ma m) (E.of 1) (wlk E a) fun n o => wyS E n o (wlk E b) fun n o => wyS E n o (wlk E c) fun n o => wyS E n o (wlk E d) fun _ o => some (.tuple [E.n.nW o, .int .i64 0])
  else none else none else none else none else none else none
theorem rways_eval (a b c d : Int) : evalFn Try.prog (orcW6 E) noLoops 100 42 Try.f42 [q4 a b c d] [] (fun v _ => some v) =
    bif E.u4 a b c d then bif !decide (E.le a b c d = 0) then some (.tuple [zeroN, .int .i64 (E.le a b c d)]) else wyF E a b c d (E.lf a b c d) else none := by kernel_rfl
end
end Go.Proofs.Ytpalajfcffdhoaa
