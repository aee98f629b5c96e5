/- Chapter 2, the reference: the lists' functions in a table. -/
import Derived.Test.YtnbfnoomhlamnaaNaR8
namespace Go.Proofs.Ytnbfnoomhlamnaa.N2
open Go Go.Eng
/-- Lists of digits and their functions, as names alone. -/
structure ND where
  D : Int → List Int
  sum : List Int → List Int → List Int
  diff : List Int → List Int → List Int
  prod : List Int → List Int → List Int
  ok : List Int → Bool
  okS : List Int → List Int → Bool
  lt : List Int → List Int → Bool
  val : List Int → Int
  okV : List Int → Bool
  okI : Int → Bool
def gOf (N : ND) : List V → List Blk → Option (Bool × V × List Blk)
  | [.int .i64 n], [] => some (N.okI n, .gs 0, [.grow false 3 1 (.ints .i64 (N.D n))])
  | _, _ => none
def gAdd67 (N : ND) : List V → List Blk → Option (Bool × V × List Blk)
  | [.gs 0, .gs 1], [.rs _ 1 (.ints .i64 xs), .rs _ 1 (.ints .i64 ys)] => some (N.ok xs && N.ok ys, .gs 2, [.grow false 3 1 (.ints .i64 (N.sum xs ys))])
  | _, _ => none
def gSub69 (N : ND) : List V → List Blk → Option (Bool × V × List Blk)
  | [.gs 0, .gs 1], [.rs _ 1 (.ints .i64 xs), .rs _ 1 (.ints .i64 ys)] => some (N.okS xs ys, .gs 2, [.grow false 3 1 (.ints .i64 (N.diff xs ys))])
  | _, _ => none
def gMul49 (N : ND) : List V → List Blk → Option (Bool × V × List Blk)
  | [.gs 0, .gs 1], [.rs _ 1 (.ints .i64 xs), .rs _ 1 (.ints .i64 ys)] => some (N.ok xs && N.ok ys, .gs 2, [.grow true 3 1 (.ints .i64 (N.prod xs ys))])
  | _, _ => none
def gLess68 (N : ND) : List V → List Blk → Option (Bool × V × List Blk)
  | [.gs 0, .gs 1], [.rs _ 1 (.ints .i64 xs), .rs _ 1 (.ints .i64 ys)] => some (N.ok xs && N.ok ys, .bool (N.lt xs ys), [])
  | _, _ => none
def gValue70 (N : ND) : List V → List Blk → Option (Bool × V × List Blk)
  | [.gs 0], [.rs _ 1 (.ints .i64 xs)] => some (N.okV xs, .int .i64 (N.val xs), [])
  | _, _ => none
def gWord (N : ND) : List V → List Blk → Option (Bool × V × List Blk)
  | [], [] => some (true, .gs 0, [.grow false 3 1 (.ints .i64 (N.D 4294967296))])
  | _, _ => none
def hTabD0 (N : ND) : HTab := addH 87 (gOf N) (addH 90 (gAdd67 N) (addH 120 (gSub69 N) (addH 88 (gMul49 N) (addH 85 (gLess68 N) (addH 119 (gValue70 N) emptyH)))))
def hTabD (N : ND) : HTab := addH 116 (gWord N) (hTabD0 N)
/-- Functions that take a nil slice for a list. -/
def nrI : FuncId → Option Row := fun f => bif Nat.beq f 90 || (Nat.beq f 120 || (Nat.beq f 88 || (Nat.beq f 85 || (Nat.beq f 119 || (Nat.beq f 89 || Nat.beq f 86))))) then some (.ints .i64 []) else none
def domD : FuncId → Bool := fun f => Nat.beq f 117 || (Nat.beq f 87 || (Nat.beq f 90 || (Nat.beq f 120 || (Nat.beq f 88 || (Nat.beq f 85 || (Nat.beq f 119 || Nat.beq f 116))))))
noncomputable abbrev orcD (HT : HTab) (LL : FuncId → Loops) : Oracle := inl Try.prog ftab tabA LL 200 never domD (orElse domT (resOrc rTab) (hOrcP nrI HT)) 20
theorem orcD_ok {HT : HTab} (hT : HTabOk Try.prog HT) {LL : FuncId → Loops} (hL : ∀ f, loopsOk Try.prog (LL f)) : OracleOk Try.prog (orcD HT LL) := inl_ok (orElse_ok (resOrc_ok rTab_ok) (hOrcP_ok hT)) ftab_ok tabA_ok hL mixed 20
def ltD (xs ys : List Int) : Bool := decide (val xs < val ys)
def okVD (xs : List Int) : Bool := isD xs && decide (val xs < 9223372036854775808)
def okID (n : Int) : Bool := decide (0 ≤ n ∧ n < 9223372036854775808)
def DD (n : Int) : List Int := D n.toNat
def D0 : ND := ⟨DD, sumD, diffD, prodD, okD, sbC, ltD, val, okVD, okID⟩
theorem hTabD0_ok : HTabOk Try.prog (hTabD0 D0) := by
  refine addH_ok ?_ (addH_ok ?_ (addH_ok ?_ (addH_ok ?_ (addH_ok ?_ (addH_ok ?_ emptyH_ok)))))
  · intro args h c v nb hq hc
    unfold gOf at hq
    split at hq
    · cases hq; exact ⟨.of Try.func87 (by kernel_rfl), of51_fn (of_decide_eq_true hc)⟩
    · cases hq
  · intro args h c v nb hq hc
    unfold gAdd67 at hq
    split at hq
    · rename_i n1 xs n2 ys
      cases hq
      have hc' : (okD xs && okD ys) = true := hc
      simp only [Bool.and_eq_true] at hc'
      exact ⟨.of Try.func90 (by kernel_rfl), add67_fn n1 n2 hc'.1 hc'.2⟩
    · cases hq
  · intro args h c v nb hq hc
    unfold gSub69 at hq
    split at hq
    · rename_i n1 xs n2 ys
      cases hq
      exact ⟨.of Try.func120 (by kernel_rfl), sub69_fn n1 n2 hc⟩
    · cases hq
  · intro args h c v nb hq hc
    unfold gMul49 at hq
    split at hq
    · rename_i n1 xs n2 ys
      cases hq
      have hc' : (okD xs && okD ys) = true := hc
      simp only [Bool.and_eq_true] at hc'
      exact ⟨.of Try.func88 (by kernel_rfl), mul49_fn n1 n2 hc'.1 hc'.2⟩
    · cases hq
  · intro args h c v nb hq hc
    unfold gLess68 at hq
    split at hq
    · rename_i n1 xs n2 ys
      cases hq
      have hc' : (okD xs && okD ys) = true := hc
      simp only [Bool.and_eq_true] at hc'
      exact ⟨.of Try.func85 (by kernel_rfl), less_fn n1 n2 hc'.1 hc'.2⟩
    · cases hq
  · intro args h c v nb hq hc
    unfold gValue70 at hq
    split at hq
    · rename_i n1 xs
      cases hq
      exact ⟨.of Try.func119 (by kernel_rfl), value_fn n1 hc⟩
    · cases hq
theorem word_eval (N : ND) : evalFn Try.prog (orcD (hTabD0 N) plainL) noLoops 200 116 Try.f116 [] [] keepB = bif N.okI 4294967296 then some (.gs 0, [.grow false 3 1 (.ints .i64 (N.D 4294967296))]) else none := by kernel_rfl
theorem hTabD_ok : HTabOk Try.prog (hTabD D0) := by
  refine addH_ok ?_ hTabD0_ok
  intro args h c v nb hq hc
  unfold gWord at hq
  split at hq
  · cases hq
    refine ⟨.of Try.func116 (by kernel_rfl), ?_⟩
    have he := word_eval D0
    rw [show D0.okI 4294967296 = true from by show okID 4294967296 = true; unfold okID; decide, cond_true] at he
    obtain ⟨v1, h1, hk, hok⟩ := evalFn_ok (orcD_ok hTabD0_ok plainL_ok) mixed Try.func116 noLoops_ok he
    simp only [keepB, Option.some.injEq, Prod.mk.injEq] at hk
    obtain ⟨rfl, rfl⟩ := hk
    exact hok
  · cases hq
end Go.Proofs.Ytnbfnoomhlamnaa.N2
