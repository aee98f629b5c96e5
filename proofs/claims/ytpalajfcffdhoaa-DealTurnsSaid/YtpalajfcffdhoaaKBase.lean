/- Chapter 6: Join, Suit and Rank known by their contracts. -/
import Derived.Test.YtpalajfcffdhoaaBcf
namespace Go.Proofs.Ytpalajfcffdhoaa
open Go Go.Eng Go.Deal
def gJoin : List V → List Blk → Option (Bool × V × List Blk)
  | [.gs 0, .str sep], [.rs _ 1 (.strs xs)] => some (decide (xs.length ≤ 140737488355328) && decide (joinLen xs sep ≤ 140737488355328), .str (joinS xs sep), [])
  | _, _ => none
def hTabK (N : N6) : HTab := addH 52 gJoin (hTabN N)
def domK : FuncId → Bool := fun f => Nat.beq f 48 || Nat.beq f 52
theorem hTabK_ok : HTabOk Try.prog (hTabK n6) := by
  refine addH_ok ?_ hTabN_ok
  intro args h c v nb hq hc
  unfold gJoin at hq
  split at hq
  · cases hq
    simp only [Bool.and_eq_true, decide_eq_true_eq] at hc
    exact ⟨.of Try.func52 (by kernel_rfl), by rw [List.append_nil]; exact join_fn Try.strings_Join Try.strings_Join_none hc.1 hc.2⟩
  · cases hq
noncomputable abbrev orcK (N : N6) (T : PTab) (LL : FuncId → Loops) : Oracle := inl Try.prog ftab T LL 100 never domK (hOrcP nrN (hTabK N)) 20
theorem orcK_ok {T : PTab} (hT : PTabOk Try.prog T) {LL : FuncId → Loops} (hL : ∀ f, loopsOk Try.prog (LL f)) : OracleOk Try.prog (orcK n6 T LL) := inl_ok (hOrcP_ok hTabK_ok) ftab_ok hT hL mixed 20
def suitI (c : Int) : Int := bif decide (c < 52) then wr .u8 (c.tdiv 13) else 0
def rankI (c : Int) : Int := bif decide (c < 52) then c.tmod 13 else 0
theorem suit_eval (N : N6) (c : Int) : evalFn Try.prog (orcN N (tabN N) plainL) noLoops 100 77 Try.f77 [.int .u8 c] [] (fun v _ => some v) = bif !decide (c < 52) then some (.int .u8 0) else some (.int .u8 (wr .u8 (c.tdiv 13))) := by kernel_rfl
theorem rank_eval (N : N6) (c : Int) : evalFn Try.prog (orcN N (tabN N) plainL) noLoops 100 78 Try.f78 [.int .u8 c] [] (fun v _ => some v) = bif !decide (c < 52) then some (.int .u8 0) else some (.int .u8 (c.tmod 13)) := by kernel_rfl
def gSuit : List V → Option (Bool × V)
  | [.int .u8 c] => some (true, .int .u8 (suitI c))
  | _ => none
def gRank : List V → Option (Bool × V)
  | [.int .u8 c] => some (true, .int .u8 (rankI c))
  | _ => none
def addK (T : PTab) : PTab := addTab 77 gSuit (addTab 78 gRank T)
theorem addK_ok {T : PTab} (hT : PTabOk Try.prog T) : PTabOk Try.prog (addK T) := by
  refine addTab_ok ?_ (addTab_ok ?_ hT)
  · intro args c v h _
    unfold gSuit at h
    split at h
    · cases h
      refine fnPure_of_eval (N := 100) (orcN_ok tabN_ok plainL_ok) mixed Try.func77 (by kernel_rfl) noLoops_ok ?_ rfl rfl
      rw [suit_eval]; unfold suitI
      rename_i c _; cases decide (c < 52) <;> rfl
    · cases h
  · intro args c v h _
    unfold gRank at h
    split at h
    · cases h
      refine fnPure_of_eval (N := 100) (orcN_ok tabN_ok plainL_ok) mixed Try.func78 (by kernel_rfl) noLoops_ok ?_ rfl rfl
      rw [rank_eval]; unfold rankI
      rename_i c _; cases decide (c < 52) <;> rfl
    · cases h
noncomputable abbrev evK (f : FuncId) (fn : Func) (args : List V) : Option V := evalFn Try.prog (orcK n6 (addK tabL) plainL) noLoops 100 f fn args [] (fun v _ => some v)
end Go.Proofs.Ytpalajfcffdhoaa
