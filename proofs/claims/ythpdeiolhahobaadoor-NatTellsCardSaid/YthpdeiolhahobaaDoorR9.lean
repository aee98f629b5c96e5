/- Chapter 2, the reference: the lists' functions in a table. -/
import Derived.Test.YthpdeiolhahobaaDoorR8
namespace Go.Proofs.YthpdeiolhahobaaDoor
open Go Go.Eng
/-- Lists of digits and their functions, as names alone. -/
structure ND where
  D : Int → List Int
  sum : List Int → List Int → List Int
  diff : List Int → List Int → List Int
  prod : List Int → List Int → List Int
  ok : List Int → Bool
  okS : List Int → List Int → Bool
  lt : List Int → List Int → Bool
  val : List Int → Int
  okV : List Int → Bool
  okI : Int → Bool
def gOf (N : ND) : List V → List Blk → Option (Bool × V × List Blk)
  | [.int .i64 n], [] => some (N.okI n, .gs 0, [.grow false 3 1 (.ints .i64 (N.D n))])
  | _, _ => none
def gAdd67 (N : ND) : List V → List Blk → Option (Bool × V × List Blk)
  | [.gs 0, .gs 1], [.rs _ 1 (.ints .i64 xs), .rs _ 1 (.ints .i64 ys)] => some (N.ok xs && N.ok ys, .gs 2, [.grow false 3 1 (.ints .i64 (N.sum xs ys))])
  | _, _ => none
def gSub69 (N : ND) : List V → List Blk → Option (Bool × V × List Blk)
  | [.gs 0, .gs 1], [.rs _ 1 (.ints .i64 xs), .rs _ 1 (.ints .i64 ys)] => some (N.okS xs ys, .gs 2, [.grow false 3 1 (.ints .i64 (N.diff xs ys))])
  | _, _ => none
def gMul49 (N : ND) : List V → List Blk → Option (Bool × V × List Blk)
  | [.gs 0, .gs 1], [.rs _ 1 (.ints .i64 xs), .rs _ 1 (.ints .i64 ys)] => some (N.ok xs && N.ok ys, .gs 2, [.grow true 3 1 (.ints .i64 (N.prod xs ys))])
  | _, _ => none
def gLess68 (N : ND) : List V → List Blk → Option (Bool × V × List Blk)
  | [.gs 0, .gs 1], [.rs _ 1 (.ints .i64 xs), .rs _ 1 (.ints .i64 ys)] => some (N.ok xs && N.ok ys, .bool (N.lt xs ys), [])
  | _, _ => none
def gValue70 (N : ND) : List V → List Blk → Option (Bool × V × List Blk)
  | [.gs 0], [.rs _ 1 (.ints .i64 xs)] => some (N.okV xs, .int .i64 (N.val xs), [])
  | _, _ => none
def gWord (N : ND) : List V → List Blk → Option (Bool × V × List Blk)
  | [], [] => some (true, .gs 0, [.grow false 3 1 (.ints .i64 (N.D 4294967296))])
  | _, _ => none
def hTabD0 (N : ND) : HTab := addH 51 (gOf N) (addH 67 (gAdd67 N) (addH 69 (gSub69 N) (addH 49 (gMul49 N) (addH 68 (gLess68 N) (addH 70 (gValue70 N) emptyH)))))
def hTabD (N : ND) : HTab := addH 72 (gWord N) (hTabD0 N)
/-- Functions that take a nil slice for a list. -/
def nrI : FuncId → Option Row := fun f => bif Nat.beq f 67 || (Nat.beq f 69 || (Nat.beq f 49 || (Nat.beq f 68 || (Nat.beq f 70 || (Nat.beq f 52 || Nat.beq f 47))))) then some (.ints .i64 []) else none
def domD : FuncId → Bool := fun f => Nat.beq f 48 || (Nat.beq f 51 || (Nat.beq f 67 || (Nat.beq f 69 || (Nat.beq f 49 || (Nat.beq f 68 || (Nat.beq f 70 || Nat.beq f 72))))))
noncomputable abbrev orcD (HT : HTab) (LL : FuncId → Loops) : Oracle := inl Tryd.prog ftab tabA LL 200 never domD (orElse domT (resOrc rTab) (hOrcP nrI HT)) 20
theorem orcD_ok {HT : HTab} (hT : HTabOk Tryd.prog HT) {LL : FuncId → Loops} (hL : ∀ f, loopsOk Tryd.prog (LL f)) : OracleOk Tryd.prog (orcD HT LL) := inl_ok (orElse_ok (resOrc_ok rTab_ok) (hOrcP_ok hT)) ftab_ok tabA_ok hL mixed 20
def ltD (xs ys : List Int) : Bool := decide (val xs < val ys)
def okVD (xs : List Int) : Bool := isD xs && decide (val xs < 9223372036854775808)
def okID (n : Int) : Bool := decide (0 ≤ n ∧ n < 9223372036854775808)
def DD (n : Int) : List Int := D n.toNat
def D0 : ND := ⟨DD, sumD, diffD, prodD, okD, sbC, ltD, val, okVD, okID⟩
theorem hTabD0_ok : HTabOk Tryd.prog (hTabD0 D0) := by
  refine addH_ok ?_ (addH_ok ?_ (addH_ok ?_ (addH_ok ?_ (addH_ok ?_ (addH_ok ?_ emptyH_ok)))))
  · intro args h c v nb hq hc
    unfold gOf at hq
    split at hq
    · cases hq; exact ⟨.of Tryd.func51 (by kernel_rfl), of51_fn (of_decide_eq_true hc)⟩
    · cases hq
  · intro args h c v nb hq hc
    unfold gAdd67 at hq
    split at hq
    · rename_i n1 xs n2 ys
      cases hq
      have hc' : (okD xs && okD ys) = true := hc
      simp only [Bool.and_eq_true] at hc'
      exact ⟨.of Tryd.func67 (by kernel_rfl), add67_fn n1 n2 hc'.1 hc'.2⟩
    · cases hq
  · intro args h c v nb hq hc
    unfold gSub69 at hq
    split at hq
    · rename_i n1 xs n2 ys
      cases hq
      exact ⟨.of Tryd.func69 (by kernel_rfl), sub69_fn n1 n2 hc⟩
    · cases hq
  · intro args h c v nb hq hc
    unfold gMul49 at hq
    split at hq
    · rename_i n1 xs n2 ys
      cases hq
      have hc' : (okD xs && okD ys) = true := hc
      simp only [Bool.and_eq_true] at hc'
      exact ⟨.of Tryd.func49 (by kernel_rfl), mul49_fn n1 n2 hc'.1 hc'.2⟩
    · cases hq
  · intro args h c v nb hq hc
    unfold gLess68 at hq
    split at hq
    · rename_i n1 xs n2 ys
      cases hq
      have hc' : (okD xs && okD ys) = true := hc
      simp only [Bool.and_eq_true] at hc'
      exact ⟨.of Tryd.func68 (by kernel_rfl), less_fn n1 n2 hc'.1 hc'.2⟩
    · cases hq
  · intro args h c v nb hq hc
    unfold gValue70 at hq
    split at hq
    · rename_i n1 xs
      cases hq
      exact ⟨.of Tryd.func70 (by kernel_rfl), value_fn n1 hc⟩
    · cases hq
theorem word_eval (N : ND) : evalFn Tryd.prog (orcD (hTabD0 N) plainL) noLoops 200 72 Tryd.f72 [] [] keepB = bif N.okI 4294967296 then some (.gs 0, [.grow false 3 1 (.ints .i64 (N.D 4294967296))]) else none := by kernel_rfl
theorem hTabD_ok : HTabOk Tryd.prog (hTabD D0) := by
  refine addH_ok ?_ hTabD0_ok
  intro args h c v nb hq hc
  unfold gWord at hq
  split at hq
  · cases hq
    refine ⟨.of Tryd.func72 (by kernel_rfl), ?_⟩
    have he := word_eval D0
    rw [show D0.okI 4294967296 = true from by show okID 4294967296 = true; unfold okID; decide, cond_true] at he
    obtain ⟨v1, h1, hk, hok⟩ := evalFn_ok (orcD_ok hTabD0_ok plainL_ok) mixed Tryd.func72 noLoops_ok he
    simp only [keepB, Option.some.injEq, Prod.mk.injEq] at hk
    obtain ⟨rfl, rfl⟩ := hk
    exact hok
  · cases hq
end Go.Proofs.YthpdeiolhahobaaDoor
