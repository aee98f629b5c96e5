/- Chapter 10: copies of lists. -/
import Derived.Test.YtojlmpcbplepcaaLg
namespace Go.Proofs.Ytojlmpcbplepcaa
open Go Go.Eng
theorem copied67_eval (xs : List Int) : evalFn Try.prog (orcE emptyTab plainL) noLoops 100 67 Try.f67 [.gs 0] [.rs false 1 (.ints .u8 xs)] lastK = bif decide (xs.length * 2 ≤ 70368744177664) then some (false, 5, 1, .ints .u8 xs) else none := by kernel_rfl
theorem copied68_eval (xs : List Int) : evalFn Try.prog (orcE emptyTab plainL) noLoops 100 68 Try.f68 [.gs 0] [.rs false 1 (.ints .i64 xs)] lastK = bif decide (xs.length * 9 ≤ 70368744177664) then some (false, 3, 1, .ints .i64 xs) else none := by kernel_rfl
theorem copied67_fn (nn : Bool) {xs : List Int} (h : xs.length ≤ 200000) : FnOK Try.prog 67 [.gs 0] [.rs nn 1 (.ints .u8 xs)] (.gs 1) ([.rs nn 1 (.ints .u8 xs)] ++ [.grow false 5 1 (.ints .u8 xs)]) := by
  have key := copied67_eval xs
  rw [decide_eq_true (show xs.length * 2 ≤ 70368744177664 by omega), cond_true] at key
  obtain ⟨v1, h1, hk1, hok⟩ := evalFn_ok (orcE_ok emptyTab_ok plainL_ok) mixed Try.func67 noLoops_ok key
  exact FnOK.hard rfl (lastK_fn hk1 hok rfl rs_ro)
theorem copied68_fn (nn : Bool) {xs : List Int} (h : xs.length ≤ 200000) : FnOK Try.prog 68 [.gs 0] [.rs nn 1 (.ints .i64 xs)] (.gs 1) ([.rs nn 1 (.ints .i64 xs)] ++ [.grow false 3 1 (.ints .i64 xs)]) := by
  have key := copied68_eval xs
  rw [decide_eq_true (show xs.length * 9 ≤ 70368744177664 by omega), cond_true] at key
  obtain ⟨v1, h1, hk1, hok⟩ := evalFn_ok (orcE_ok emptyTab_ok plainL_ok) mixed Try.func68 noLoops_ok key
  exact FnOK.hard rfl (lastK_fn hk1 hok rfl rs_ro)
def lenOk (xs : List Int) : Bool := decide (xs.length ≤ 200000)
def cpU (K : List Int → Bool) : List V → List Blk → Option (Bool × V × List Blk)
  | [.gs 0], [.rs _ 1 (.ints .u8 xs)] => some (K xs, .gs 1, [.grow false 5 1 (.ints .u8 xs)])
  | _, _ => none
def cpI (K : List Int → Bool) : List V → List Blk → Option (Bool × V × List Blk)
  | [.gs 0], [.rs _ 1 (.ints .i64 xs)] => some (K xs, .gs 1, [.grow false 3 1 (.ints .i64 xs)])
  | _, _ => none
def hTabCp (K : List Int → Bool) : HTab := addH 67 (cpU K) (addH 68 (cpI K) emptyH)
theorem hTabCp_ok : HTabOk Try.prog (hTabCp lenOk) := by
  refine addH_ok ?_ (addH_ok ?_ emptyH_ok)
  · intro args h c v nb hq hc
    unfold cpU at hq
    split at hq
    · cases hq; exact ⟨.of Try.func67 (by kernel_rfl), copied67_fn _ (of_decide_eq_true hc)⟩
    · cases hq
  · intro args h c v nb hq hc
    unfold cpI at hq
    split at hq
    · cases hq; exact ⟨.of Try.func68 (by kernel_rfl), copied68_fn _ (of_decide_eq_true hc)⟩
    · cases hq
def isCp : FuncId → Bool := fun f => Nat.beq f 67 || Nat.beq f 68
def nrCp : FuncId → Option Row := fun f => bif Nat.beq f 67 then some (.ints .u8 []) else some (.ints .i64 [])
noncomputable abbrev orcCp (K : List Int → Bool) (T : PTab) (LL : FuncId → Loops) : Oracle := inl Try.prog ftab T LL 100 never isCp (hOrcP nrCp (hTabCp K)) 20
theorem orcCp_ok {T : PTab} (hT : PTabOk Try.prog T) {LL : FuncId → Loops} (hL : ∀ f, loopsOk Try.prog (LL f)) : OracleOk Try.prog (orcCp lenOk T LL) := inl_ok (hOrcP_ok hTabCp_ok) ftab_ok hT hL mixed 20
/-- A function's answer: a course and a number. -/
def crsA (n1 n2 : Bool) (t : List TV) : Tm := ⟨[some (.tuple (.agg (crsT (.gs 2) (.gs 3)) :: t))], [.rs n1 1 (.ints .u8), .rs n2 1 (.ints .i64), .grow false 5 1 (.ints .u8), .grow false 3 1 (.ints .i64)], []⟩
def crsA1 (n1 n2 : Bool) : Tm := ⟨[some (.agg (crsT (.gs 2) (.gs 3)))], [.rs n1 1 (.ints .u8), .rs n2 1 (.ints .i64), .grow false 5 1 (.ints .u8), .grow false 3 1 (.ints .i64)], []⟩
end Go.Proofs.Ytojlmpcbplepcaa
