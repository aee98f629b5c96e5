/- Texts merged: List2, List3. -/
import Derived.Test.YtbocdcnkmcejjaaDoorList
/- Chapter 4: List's contract: the cards of the set, the greatest first. -/
namespace Go.Proofs.YtbocdcnkmcejjaaDoor
open Go Go.Eng
theorem li_loop (rd : Option Nat) : ∀ x : Nat × List Int, (x.1 < 4503599627370496 ∧ x.2.length + (desc x.1 52).length ≤ 60) →
    ∃ k, SimL Tryd.prog 5 rd liLp k (liT1.at [.i (x.1 : Int), .l x.2]) (.exit 0) (liT1.at [.i 0, .l (x.2 ++ desc x.1 52)]) := by
  refine loop_of_rounds_n (C := orcO) (L := noLoops) (N := 100) (me := 53) (T := liT1) (T' := liT1) orcO_ok mixed noLoops_ok (by kernel_rfl) (by kernel_rfl) (X := Nat × List Int)
    (fun x => [.i (x.1 : Int), .l x.2]) (fun x => x.1 < 4503599627370496 ∧ x.2.length + (desc x.1 52).length ≤ 60) (fun x => x.1) (fun x => (.exit 0, [.i 0, .l (x.2 ++ desc x.1 52)])) ?_
  rintro ⟨r, xs⟩ ⟨hr, hl⟩
  dsimp only at hr hl ⊢
  have h := li_round rd r xs
  by_cases h0 : r = 0
  · subst h0
    have hd : desc 0 52 = [] := desc_skip 52 (Nat.zero_le _) (fun i _ => Nat.zero_testBit i)
    rw [show liR ((0 : Nat) : Int) xs = some (.exit 0, [.i ((0 : Nat) : Int), .l xs], [(liA, liA), (liB, liB)]) from rfl] at h
    exact ⟨_, _, _, h, liCodes, .inr ⟨by simp, by rw [hd, List.append_nil]; rfl⟩⟩
  · obtain ⟨r', e1, e2, e3, e4⟩ := liR_step (xs := xs) hr h0 (by omega)
    rw [e2] at h
    refine ⟨_, _, _, h, liCodes, .inl ⟨rfl, (r', xs ++ [((Lib.bitLen r - 1 : Nat) : Int)]), rfl, ⟨e1, ?_⟩, e4, ?_⟩⟩
    · dsimp only
      rw [e3] at hl
      simp only [List.length_append, List.length_cons, List.length_nil] at hl ⊢
      omega
    · dsimp only
      rw [e3, List.append_assoc]; rfl
noncomputable def liTree : List PV → Fin
  | [.i r, .l xs] => .br (pB (0 ≤ r ∧ r < 4503599627370496 ∧ xs = [])) (.br (decide (r = 0)) (.leaf (.exit 0) (liT0.at [.i 0, .l []])) (.leaf (.exit 0) (liT1.at [.i 0, .l (desc r.toNat 52)]))) .no
  | _ => .no
noncomputable def liSum : LoopSum := lsumF 5 liT0 liLp liTree
theorem liSum_ok : LoopOk Tryd.prog liSum := by
  refine lsumF_ok (by kernel_rfl) (fun rd ps e1 s1 h => ?_)
  unfold liTree at h
  split at h
  · rename_i r xs
    simp only [Fin.pick] at h
    cases hc : pB (0 ≤ r ∧ r < 4503599627370496 ∧ xs = []) with
    | false => rw [hc] at h; cases h
    | true =>
      rw [hc, cond_true] at h
      rw [pB_iff] at hc
      obtain ⟨h0, h1, rfl⟩ := hc
      obtain ⟨n, rfl⟩ : ∃ n : Nat, r = n := ⟨r.toNat, by omega⟩
      have hf := li_first rd n []
      by_cases hz : n = 0
      · subst hz
        rw [decide_eq_true (show ((0 : Nat) : Int) = 0 from rfl)] at h
        cases h
        exact loop_leave (T2 := liT1) (T' := liT0) orcO_ok mixed noLoops_ok (by kernel_rfl) (by kernel_rfl) hf liCodes (by simp)
      · rw [decide_eq_false (show ¬ (n : Int) = 0 by omega)] at h
        cases h
        obtain ⟨r', e1, e2, e3, e4⟩ := liR_step (xs := []) (r := n) (by omega) hz (by simp)
        rw [e2] at hf
        have hd := desc_len n 52
        rw [e3] at hd
        simp only [List.length_cons] at hd
        obtain ⟨k, hk⟩ := li_loop rd (r', [((Lib.bitLen n - 1 : Nat) : Int)]) ⟨e1, by simp only [List.length_cons, List.length_nil]; omega⟩
        rw [show ((n : Int)).toNat = n by omega, e3]
        exact loop_peel (T2 := liT1) (T' := liT0) orcO_ok mixed noLoops_ok (by kernel_rfl) (by kernel_rfl) hf liCodes hk
  · cases h
noncomputable def liL : FuncId → Loops := fun f => match f with
  | 53 => sums (fun n => match n with | 1 => some liSum | _ => none)
  | _ => noLoops
theorem liL_ok : ∀ f, loopsOk Tryd.prog (liL f) := fun f => by
  unfold liL
  split
  · intro n g hg
    simp only [sums] at hg
    split at hg
    · cases hg; exact liSum_ok
    · cases hg
  · exact noLoops_ok
noncomputable def liO : Tm := ⟨[some (.tuple [.gs 0, .int .i64])], [.grow true 5 1 (.ints .u8)], []⟩
noncomputable abbrev orcLi : Oracle := inl Tryd.prog ftab tabO liL 100 never never (oracleOf emptyTab) 20
theorem orcLi_ok : OracleOk Tryd.prog orcLi := inl_ok (oracleOf_ok emptyTab_ok) ftab_ok tabO_ok liL_ok mixed 20
end Go.Proofs.YtbocdcnkmcejjaaDoor

/- Chapter 4: List in a table. -/
namespace Go.Proofs.YtbocdcnkmcejjaaDoor
open Go Go.Eng
theorem list_eval (m : Int) : evalFn Tryd.prog orcLi noLoops 100 21 Tryd.f21 [.int .u64 m] [] (fun v h => liO.find 0 ⟨[v], h, []⟩) =
    bif decide (4503599627370495 < m) then none else bif decide (0 ≤ (0 : Int) ∧ 0 ≤ ocI m ∧ ocI m * 2 ≤ 140737488355328) then
      cond (codesB [(liLp, liLp), (liA, liA), (liB, liB)]) (bif pB (0 ≤ m ∧ m < 4503599627370496 ∧ List.replicate 0 (0 : Int) = []) then
        bif decide (m = 0) then some ([.i 0, .l []], []) else some ([.i 0, .l (desc m.toNat 52)], []) else none) none
    else none := by kernel_rfl
theorem list_fn {m : Int} (h0 : 0 ≤ m) (h1 : m < 4503599627370496) : FnOK Tryd.prog 21 [.int .u64 m] [] (.tuple [.gs 0, .int .i64 0]) [.grow true 5 1 (.ints .u8 (desc m.toNat 52))] := by
  refine fn_find (N := 100) (ps := [.i 0, .l (desc m.toNat 52)]) (c := []) (T := liO) orcLi_ok mixed Tryd.func21 noLoops_ok (by kernel_rfl) ?_ (fun _ h => by cases h) rfl
  have ho := oc_range m
  have hc : codesB [(liLp, liLp), (liA, liA), (liB, liB)] = true := by
    rw [codesB_iff]; intro x hx; simp at hx; rcases hx with rfl | rfl | rfl <;> rfl
  refine (list_eval m).trans ?_
  rw [decide_eq_false (show ¬ 4503599627370495 < m by omega), decide_eq_true (show 0 ≤ (0 : Int) ∧ 0 ≤ ocI m ∧ ocI m * 2 ≤ 140737488355328 by omega), hc, pB_iff.2 ⟨h0, h1, rfl⟩]
  by_cases hz : m = 0
  · subst hz
    have hd : desc 0 52 = [] := desc_skip 52 (Nat.zero_le _) (fun i _ => Nat.zero_testBit i)
    rw [decide_eq_true rfl, show (0 : Int).toNat = 0 from rfl, hd]; rfl
  · rw [decide_eq_false hz]; rfl
def gList : List V → List Blk → Option (Bool × V × List Blk)
  | [.int .u64 m], [] => some (decide (0 ≤ m ∧ m < 4503599627370496), .tuple [.gs 0, .int .i64 0], [.grow true 5 1 (.ints .u8 (desc m.toNat 52))])
  | _, _ => none
theorem gList_ok {args : List V} {h : List Blk} {c : Bool} {v : V} {nb : List Blk} (hq : gList args h = some (c, v, nb)) (hc : c = true) : Enterable Tryd.prog 21 ∧ FnOK Tryd.prog 21 args h v (h ++ nb) := by
  unfold gList at hq
  split at hq
  · cases hq
    simp only [decide_eq_true_eq] at hc
    exact ⟨.of Tryd.func21 (by kernel_rfl), list_fn hc.1 hc.2⟩
  · cases hq
def hTabL : HTab := addH 21 gList hTabA
def hDomL : FuncId → Bool := fun f => Nat.beq f 12 || (Nat.beq f 36 || Nat.beq f 21)
theorem hTabL_ok : HTabOk Tryd.prog hTabL := addH_ok (fun _ _ _ _ _ hq hc => gList_ok hq hc) hTabA_ok
noncomputable abbrev orcL (T : PTab) (LL : FuncId → Loops) : Oracle := inl Tryd.prog ftab T LL 100 never hDomL (hOrcG glA hTabL) 20
theorem orcL_ok {T : PTab} (hT : PTabOk Tryd.prog T) {LL : FuncId → Loops} (hL : ∀ f, loopsOk Tryd.prog (LL f)) : OracleOk Tryd.prog (orcL T LL) := inl_ok (hOrcG_ok hTabL_ok) ftab_ok hT hL mixed 20
end Go.Proofs.YtbocdcnkmcejjaaDoor
