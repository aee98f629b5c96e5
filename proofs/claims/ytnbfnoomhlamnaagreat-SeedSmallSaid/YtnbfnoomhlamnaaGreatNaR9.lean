/- Texts merged: NaR9, NaR10. -/
import Derived.Test.YtnbfnoomhlamnaaGreatNaR8
/- Chapter 2, the reference: the lists' functions in a table. -/
namespace Go.Proofs.YtnbfnoomhlamnaaGreat.N2
open Go Go.Eng
/-- Lists of digits and their functions, as names alone. -/
structure ND where
  D : Int → List Int
  sum : List Int → List Int → List Int
  diff : List Int → List Int → List Int
  prod : List Int → List Int → List Int
  ok : List Int → Bool
  okS : List Int → List Int → Bool
  lt : List Int → List Int → Bool
  val : List Int → Int
  okV : List Int → Bool
  okI : Int → Bool
def gOf (N : ND) : List V → List Blk → Option (Bool × V × List Blk)
  | [.int .i64 n], [] => some (N.okI n, .gs 0, [.grow false 3 1 (.ints .i64 (N.D n))])
  | _, _ => none
def gAdd67 (N : ND) : List V → List Blk → Option (Bool × V × List Blk)
  | [.gs 0, .gs 1], [.rs _ 1 (.ints .i64 xs), .rs _ 1 (.ints .i64 ys)] => some (N.ok xs && N.ok ys, .gs 2, [.grow false 3 1 (.ints .i64 (N.sum xs ys))])
  | _, _ => none
def gSub69 (N : ND) : List V → List Blk → Option (Bool × V × List Blk)
  | [.gs 0, .gs 1], [.rs _ 1 (.ints .i64 xs), .rs _ 1 (.ints .i64 ys)] => some (N.okS xs ys, .gs 2, [.grow false 3 1 (.ints .i64 (N.diff xs ys))])
  | _, _ => none
def gMul49 (N : ND) : List V → List Blk → Option (Bool × V × List Blk)
  | [.gs 0, .gs 1], [.rs _ 1 (.ints .i64 xs), .rs _ 1 (.ints .i64 ys)] => some (N.ok xs && N.ok ys, .gs 2, [.grow true 3 1 (.ints .i64 (N.prod xs ys))])
  | _, _ => none
def gLess68 (N : ND) : List V → List Blk → Option (Bool × V × List Blk)
  | [.gs 0, .gs 1], [.rs _ 1 (.ints .i64 xs), .rs _ 1 (.ints .i64 ys)] => some (N.ok xs && N.ok ys, .bool (N.lt xs ys), [])
  | _, _ => none
def gValue70 (N : ND) : List V → List Blk → Option (Bool × V × List Blk)
  | [.gs 0], [.rs _ 1 (.ints .i64 xs)] => some (N.okV xs, .int .i64 (N.val xs), [])
  | _, _ => none
def gWord (N : ND) : List V → List Blk → Option (Bool × V × List Blk)
  | [], [] => some (true, .gs 0, [.grow false 3 1 (.ints .i64 (N.D 4294967296))])
  | _, _ => none
def hTabD0 (N : ND) : HTab := addH 60 (gOf N) (addH 63 (gAdd67 N) (addH 88 (gSub69 N) (addH 61 (gMul49 N) (addH 58 (gLess68 N) (addH 87 (gValue70 N) emptyH)))))
def hTabD (N : ND) : HTab := addH 84 (gWord N) (hTabD0 N)
/-- Functions that take a nil slice for a list. -/
def nrI : FuncId → Option Row := fun f => bif Nat.beq f 63 || (Nat.beq f 88 || (Nat.beq f 61 || (Nat.beq f 58 || (Nat.beq f 87 || (Nat.beq f 62 || Nat.beq f 59))))) then some (.ints .i64 []) else none
def domD : FuncId → Bool := fun f => Nat.beq f 85 || (Nat.beq f 60 || (Nat.beq f 63 || (Nat.beq f 88 || (Nat.beq f 61 || (Nat.beq f 58 || (Nat.beq f 87 || Nat.beq f 84))))))
noncomputable abbrev orcD (HT : HTab) (LL : FuncId → Loops) : Oracle := inl Tryz.prog ftab tabA LL 200 never domD (orElse domT (resOrc rTab) (hOrcP nrI HT)) 20
theorem orcD_ok {HT : HTab} (hT : HTabOk Tryz.prog HT) {LL : FuncId → Loops} (hL : ∀ f, loopsOk Tryz.prog (LL f)) : OracleOk Tryz.prog (orcD HT LL) := inl_ok (orElse_ok (resOrc_ok rTab_ok) (hOrcP_ok hT)) ftab_ok tabA_ok hL mixed 20
def ltD (xs ys : List Int) : Bool := decide (val xs < val ys)
def okVD (xs : List Int) : Bool := isD xs && decide (val xs < 9223372036854775808)
def okID (n : Int) : Bool := decide (0 ≤ n ∧ n < 9223372036854775808)
def DD (n : Int) : List Int := D n.toNat
def D0 : ND := ⟨DD, sumD, diffD, prodD, okD, sbC, ltD, val, okVD, okID⟩
theorem hTabD0_ok : HTabOk Tryz.prog (hTabD0 D0) := by
  refine addH_ok ?_ (addH_ok ?_ (addH_ok ?_ (addH_ok ?_ (addH_ok ?_ (addH_ok ?_ emptyH_ok)))))
  · intro args h c v nb hq hc
    unfold gOf at hq
    split at hq
    · cases hq; exact ⟨.of Tryz.func60 (by kernel_rfl), of51_fn (of_decide_eq_true hc)⟩
    · cases hq
  · intro args h c v nb hq hc
    unfold gAdd67 at hq
    split at hq
    · rename_i n1 xs n2 ys
      cases hq
      have hc' : (okD xs && okD ys) = true := hc
      simp only [Bool.and_eq_true] at hc'
      exact ⟨.of Tryz.func63 (by kernel_rfl), add67_fn n1 n2 hc'.1 hc'.2⟩
    · cases hq
  · intro args h c v nb hq hc
    unfold gSub69 at hq
    split at hq
    · rename_i n1 xs n2 ys
      cases hq
      exact ⟨.of Tryz.func88 (by kernel_rfl), sub69_fn n1 n2 hc⟩
    · cases hq
  · intro args h c v nb hq hc
    unfold gMul49 at hq
    split at hq
    · rename_i n1 xs n2 ys
      cases hq
      have hc' : (okD xs && okD ys) = true := hc
      simp only [Bool.and_eq_true] at hc'
      exact ⟨.of Tryz.func61 (by kernel_rfl), mul49_fn n1 n2 hc'.1 hc'.2⟩
    · cases hq
  · intro args h c v nb hq hc
    unfold gLess68 at hq
    split at hq
    · rename_i n1 xs n2 ys
      cases hq
      have hc' : (okD xs && okD ys) = true := hc
      simp only [Bool.and_eq_true] at hc'
      exact ⟨.of Tryz.func58 (by kernel_rfl), less_fn n1 n2 hc'.1 hc'.2⟩
    · cases hq
  · intro args h c v nb hq hc
    unfold gValue70 at hq
    split at hq
    · rename_i n1 xs
      cases hq
      exact ⟨.of Tryz.func87 (by kernel_rfl), value_fn n1 hc⟩
    · cases hq
theorem word_eval (N : ND) : evalFn Tryz.prog (orcD (hTabD0 N) plainL) noLoops 200 84 Tryz.f84 [] [] keepB = bif N.okI 4294967296 then some (.gs 0, [.grow false 3 1 (.ints .i64 (N.D 4294967296))]) else none := by kernel_rfl
theorem hTabD_ok : HTabOk Tryz.prog (hTabD D0) := by
  refine addH_ok ?_ hTabD0_ok
  intro args h c v nb hq hc
  unfold gWord at hq
  split at hq
  · cases hq
    refine ⟨.of Tryz.func84 (by kernel_rfl), ?_⟩
    have he := word_eval D0
    rw [show D0.okI 4294967296 = true from by show okID 4294967296 = true; unfold okID; decide, cond_true] at he
    obtain ⟨v1, h1, hk, hok⟩ := evalFn_ok (orcD_ok hTabD0_ok plainL_ok) mixed Tryz.func84 noLoops_ok he
    simp only [keepB, Option.some.injEq, Prod.mk.injEq] at hk
    obtain ⟨rfl, rfl⟩ := hk
    exact hok
  · cases hq
end Go.Proofs.YtnbfnoomhlamnaaGreat.N2

/- Chapter 2, the reference: the digits of a number; 2^128. -/
namespace Go.Proofs.YtnbfnoomhlamnaaGreat.N2
open Go Go.Eng
/-- One word more. -/
def ND.step (N : ND) (l : List Int) (x : Int) : List Int := N.sum (N.prod l (N.D 4294967296)) (N.D (wr .i64 x))
def ND.stepC {α : Type} (N : ND) (l : List Int) (x : Int) (K : Option α) : Option α := bif N.ok l && N.ok (N.D 4294967296) then bif N.okI (wr .i64 x) then bif N.ok (N.prod l (N.D 4294967296)) && N.ok (N.D (wr .i64 x)) then K else none else none else none
theorem digits_eval (N : ND) (a b c d : Int) : evalFn Tryz.prog (orcD (hTabD N) plainL) noLoops 200 57 Tryz.f57 [.agg [.int .u32 a, .int .u32 b, .int .u32 c, .int .u32 d]] [] lastK =
    N.stepC [] d (N.stepC (N.step [] d) c (N.stepC (N.step (N.step [] d) c) b (N.stepC (N.step (N.step (N.step [] d) c) b) a (bif decide ((N.step (N.step (N.step (N.step [] d) c) b) a).length ≤ 9223372036854775807) then
      some (false, 3, 1, .ints .i64 (List.take (tz (N.step (N.step (N.step (N.step [] d) c) b) a)).length (N.step (N.step (N.step (N.step [] d) c) b) a))) else none)))) := by kernel_rfl
theorem len_D {n K : Nat} (h : n < 10 ^ K) (hK : K ≤ 1000000) : okD (D n) = true := okD_D (Nat.le_trans (D_len_lt h) hK)
theorem okD_lt {n : Nat} (h : n < 340282366920938463463374607431768211456) : okD (D n) = true := len_D (K := 39) (Nat.lt_trans h (by decide)) (by decide)
theorem DD_eq (n : Nat) : DD (n : Int) = D n := rfl
theorem step_eq {n : Nat} {x : Int} (hn : n < 79228162514264337593543950336) (hx : 0 ≤ x ∧ x < 4294967296) : (∀ {α : Type} (K : Option α), D0.stepC (D n) x K = K) ∧ D0.step (D n) x = D (n * 4294967296 + x.toNat) := by
  have hw : wr .i64 x = x := wr64 (by omega) (by omega)
  have hDw : D0.D 4294967296 = D 4294967296 := rfl
  have hDx : D0.D x = D x.toNat := rfl
  have hp : D0.prod (D n) (D 4294967296) = D (n * 4294967296) := by
    rw [show D0.prod = prodD from rfl]
    unfold prodD
    rw [val_D, val_D]
    rw [show ((n : Int) * ((4294967296 : Nat) : Int)).toNat = n * 4294967296 by omega]
  have k1 : D0.ok (D n) = true := okD_lt (n := n) (by omega)
  have k2 : D0.ok (D 4294967296) = true := okD_lt (n := 4294967296) (by omega)
  have k3 : D0.ok (D (n * 4294967296)) = true := okD_lt (n := n * 4294967296) (by omega)
  have k4 : D0.ok (D x.toNat) = true := okD_lt (n := x.toNat) (by omega)
  have k5 : D0.okI x = true := by rw [show D0.okI = okID from rfl]; unfold okID; rw [decide_eq_true (by omega)]
  constructor
  · intro α K
    unfold ND.stepC
    rw [hw, hDw, hDx, hp, k1, k2, k3, k4, k5]; rfl
  · unfold ND.step
    rw [hw, hDw, hDx, hp, show D0.sum = sumD from rfl]
    unfold sumD
    rw [val_D, val_D]
    rw [show (((n * 4294967296 : Nat) : Int) + ((x.toNat : Nat) : Int)).toNat = n * 4294967296 + x.toNat by omega]
theorem no_blk : ∀ (b : Nat) blk, ([] : List Blk)[b]? = some blk → blk.mine = false := fun b blk h => by simp at h
theorem digits_fn {a b c d : Int} (h : inN a b c d = true) : FnOK Tryz.prog 57 [.agg [.int .u32 a, .int .u32 b, .int .u32 c, .int .u32 d]] [] (.gs 0) ([] ++ [.grow false 3 1 (.ints .i64 (DD (nval a b c d)))]) := by
  have he := digits_eval D0 a b c d
  have hr := nval_range h
  rw [inN_iff] at h
  obtain ⟨ha, hb, hc, hd⟩ := h
  obtain ⟨s1, e1⟩ := step_eq (n := 0) (by omega) hd
  obtain ⟨s2, e2⟩ := step_eq (n := 0 * 4294967296 + d.toNat) (by omega) hc
  obtain ⟨s3, e3⟩ := step_eq (n := (0 * 4294967296 + d.toNat) * 4294967296 + c.toNat) (by omega) hb
  obtain ⟨s4, e4⟩ := step_eq (n := ((0 * 4294967296 + d.toNat) * 4294967296 + c.toNat) * 4294967296 + b.toNat) (by omega) ha
  rw [show D 0 = [] from rfl] at s1 e1
  have hN : (((0 * 4294967296 + d.toNat) * 4294967296 + c.toNat) * 4294967296 + b.toNat) * 4294967296 + a.toNat = (nval a b c d).toNat := by unfold nval; omega
  have hlen : (D (nval a b c d).toNat).length ≤ 39 := D_len_lt (Nat.lt_trans (show (nval a b c d).toNat < 340282366920938463463374607431768211456 by omega) (by decide))
  rw [s1, e1, s2, e2, s3, e3, s4, e4, hN, tz_D, List.take_length, decide_eq_true (by omega), cond_true] at he
  obtain ⟨v1, h1, hk, hok⟩ := evalFn_ok (orcD_ok hTabD_ok plainL_ok) mixed Tryz.func57 noLoops_ok he
  exact lastK_fn hk hok rfl no_blk
theorem most_eval (N : ND) : evalFn Tryz.prog (orcD (hTabD N) plainL) noLoops 200 86 Tryz.f86 [] [] lastK =
    bif N.ok (N.D 4294967296) && N.ok (N.D 4294967296) then bif N.ok (N.D 4294967296) && N.ok (N.D 4294967296) then bif N.ok (N.prod (N.D 4294967296) (N.D 4294967296)) && N.ok (N.prod (N.D 4294967296) (N.D 4294967296)) then
      some (true, 3, 1, .ints .i64 (N.prod (N.prod (N.D 4294967296) (N.D 4294967296)) (N.prod (N.D 4294967296) (N.D 4294967296)))) else none else none else none := by kernel_rfl
theorem prodD_D (m n : Nat) : prodD (D m) (D n) = D (m * n) := by
  unfold prodD
  rw [val_D, val_D, ← Int.natCast_mul]; rfl
theorem most_fn : FnOK Tryz.prog 86 [] [] (.gs 0) ([] ++ [.grow true 3 1 (.ints .i64 (D 340282366920938463463374607431768211456))]) := by
  have he := most_eval D0
  have hDw : D0.D 4294967296 = D 4294967296 := rfl
  have k1 : D0.ok (D 4294967296) = true := okD_lt (n := 4294967296) (by omega)
  have k2 : D0.ok (D (4294967296 * 4294967296)) = true := okD_lt (n := 4294967296 * 4294967296) (by omega)
  rw [hDw, show D0.prod = prodD from rfl, prodD_D, prodD_D, k1, k2, show 4294967296 * 4294967296 * (4294967296 * 4294967296) = 340282366920938463463374607431768211456 from rfl] at he
  simp only [Bool.and_self, cond_true] at he
  obtain ⟨v1, h1, hk, hok⟩ := evalFn_ok (orcD_ok hTabD_ok plainL_ok) mixed Tryz.func86 noLoops_ok he
  exact lastK_fn hk hok rfl no_blk
end Go.Proofs.YtnbfnoomhlamnaaGreat.N2
