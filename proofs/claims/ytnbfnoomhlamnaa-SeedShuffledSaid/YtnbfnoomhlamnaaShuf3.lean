/- Chapter 3: Shuffle's contract in a table. -/
import Derived.Test.YtnbfnoomhlamnaaShuf2
namespace Go.Proofs.Ytnbfnoomhlamnaa
open Go Go.Eng
def gShuf : List V → List Blk → Option (Bool × V × List Blk)
  | [.int .i64 s, .gs 0], [.rs nn 1 (.ints .i64 xs)] => some (nnB (.rs nn 1 (.ints .i64 xs)) && (rightB s && decide (xs.length ≤ 10000)), .tuple [.int .i64 (shufR (xs.length - 1) s xs).1, .gs 1, .int .i64 0], [.grow true 3 1 (.ints .i64 (shufR (xs.length - 1) s xs).2)])
  | [.int .i64 s, .flat (.slice none 0 0)], [] => some (rightB s, .tuple [.int .i64 s, .flat (.slice none 0 0), .int .i64 0], [])
  | [.int .i64 s, .flat (.slice (some _) 0 0)], [] => some (rightB s, .tuple [.int .i64 s, .gs 1, .int .i64 0], [.dead, .grow true 3 1 (.vs [])])
  | _, _ => none
def hTab : HTab := addH 18 gShuf emptyH
def hDom : FuncId → Bool := fun f => Nat.beq f 18
theorem hTab_ok : HTabOk Try.prog hTab := by
  refine addH_ok ?_ emptyH_ok
  intro args h c v nb hq hc
  unfold gShuf at hq
  split at hq
  · cases hq
    simp only [Bool.and_eq_true, decide_eq_true_eq] at hc
    exact ⟨.of Try.func18 (by kernel_rfl), shuf_fn hc.1 hc.2.1 hc.2.2⟩
  · cases hq
    exact ⟨.of Try.func18 (by kernel_rfl), shuf_fn_nil hc⟩
  · cases hq
    exact ⟨.of Try.func18 (by kernel_rfl), shuf_fn_zero hc⟩
  · cases hq
noncomputable abbrev orcH (T : PTab) (LL : FuncId → Loops) : Oracle := inl Try.prog ftab T LL 100 never hDom (hOrc hTab) 20
theorem orcH_ok {T : PTab} (hT : PTabOk Try.prog T) {LL : FuncId → Loops} (hL : ∀ f, loopsOk Try.prog (LL f)) : OracleOk Try.prog (orcH T LL) := inl_ok (hOrc_ok hTab_ok) ftab_ok hT hL mixed 20
end Go.Proofs.Ytnbfnoomhlamnaa
