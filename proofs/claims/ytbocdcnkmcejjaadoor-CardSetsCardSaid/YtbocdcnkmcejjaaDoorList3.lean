/- Chapter 4: List in a table. -/
import Derived.Test.YtbocdcnkmcejjaaDoorList2
namespace Go.Proofs.YtbocdcnkmcejjaaDoor
open Go Go.Eng
theorem list_eval (m : Int) : evalFn Tryd.prog orcLi noLoops 100 21 Tryd.f21 [.int .u64 m] [] (fun v h => liO.find 0 ⟨[v], h, []⟩) =
    bif decide (4503599627370495 < m) then none else bif decide (0 ≤ (0 : Int) ∧ 0 ≤ ocI m ∧ ocI m * 2 ≤ 140737488355328) then
      cond (codesB [(liLp, liLp), (liA, liA), (liB, liB)]) (bif pB (0 ≤ m ∧ m < 4503599627370496 ∧ List.replicate 0 (0 : Int) = []) then
        bif decide (m = 0) then some ([.i 0, .l []], []) else some ([.i 0, .l (desc m.toNat 52)], []) else none) none
    else none := by kernel_rfl
theorem list_fn {m : Int} (h0 : 0 ≤ m) (h1 : m < 4503599627370496) : FnOK Tryd.prog 21 [.int .u64 m] [] (.tuple [.gs 0, .int .i64 0]) [.grow true 5 1 (.ints .u8 (desc m.toNat 52))] := by
  refine fn_find (N := 100) (ps := [.i 0, .l (desc m.toNat 52)]) (c := []) (T := liO) orcLi_ok mixed Tryd.func21 noLoops_ok (by kernel_rfl) ?_ (fun _ h => by cases h) rfl
  have ho := oc_range m
  have hc : codesB [(liLp, liLp), (liA, liA), (liB, liB)] = true := by
    rw [codesB_iff]; intro x hx; simp at hx; rcases hx with rfl | rfl | rfl <;> rfl
  refine (list_eval m).trans ?_
  rw [decide_eq_false (show ¬ 4503599627370495 < m by omega), decide_eq_true (show 0 ≤ (0 : Int) ∧ 0 ≤ ocI m ∧ ocI m * 2 ≤ 140737488355328 by omega), hc, pB_iff.2 ⟨h0, h1, rfl⟩]
  by_cases hz : m = 0
  · subst hz
    have hd : desc 0 52 = [] := desc_skip 52 (Nat.zero_le _) (fun i _ => Nat.zero_testBit i)
    rw [decide_eq_true rfl, show (0 : Int).toNat = 0 from rfl, hd]; rfl
  · rw [decide_eq_false hz]; rfl
def gList : List V → List Blk → Option (Bool × V × List Blk)
  | [.int .u64 m], [] => some (decide (0 ≤ m ∧ m < 4503599627370496), .tuple [.gs 0, .int .i64 0], [.grow true 5 1 (.ints .u8 (desc m.toNat 52))])
  | _, _ => none
theorem gList_ok {args : List V} {h : List Blk} {c : Bool} {v : V} {nb : List Blk} (hq : gList args h = some (c, v, nb)) (hc : c = true) : Enterable Tryd.prog 21 ∧ FnOK Tryd.prog 21 args h v (h ++ nb) := by
  unfold gList at hq
  split at hq
  · cases hq
    simp only [decide_eq_true_eq] at hc
    exact ⟨.of Tryd.func21 (by kernel_rfl), list_fn hc.1 hc.2⟩
  · cases hq
def hTabL : HTab := addH 21 gList hTabA
def hDomL : FuncId → Bool := fun f => Nat.beq f 12 || (Nat.beq f 36 || Nat.beq f 21)
theorem hTabL_ok : HTabOk Tryd.prog hTabL := addH_ok (fun _ _ _ _ _ hq hc => gList_ok hq hc) hTabA_ok
noncomputable abbrev orcL (T : PTab) (LL : FuncId → Loops) : Oracle := inl Tryd.prog ftab T LL 100 never hDomL (hOrcG glA hTabL) 20
theorem orcL_ok {T : PTab} (hT : PTabOk Tryd.prog T) {LL : FuncId → Loops} (hL : ∀ f, loopsOk Tryd.prog (LL f)) : OracleOk Tryd.prog (orcL T LL) := inl_ok (hOrcG_ok hTabL_ok) ftab_ok hT hL mixed 20
end Go.Proofs.YtbocdcnkmcejjaaDoor
