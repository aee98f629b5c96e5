/- Chapter 4: List's contract: the cards of the set, the greatest first. -/
import Derived.Test.YtbocdcnkmcejjaaDoorList
namespace Go.Proofs.YtbocdcnkmcejjaaDoor
open Go Go.Eng
theorem li_loop (rd : Option Nat) : ∀ x : Nat × List Int, (x.1 < 4503599627370496 ∧ x.2.length + (desc x.1 52).length ≤ 60) →
    ∃ k, SimL Tryd.prog 5 rd liLp k (liT1.at [.i (x.1 : Int), .l x.2]) (.exit 0) (liT1.at [.i 0, .l (x.2 ++ desc x.1 52)]) := by
  refine loop_of_rounds_n (C := orcO) (L := noLoops) (N := 100) (me := 53) (T := liT1) (T' := liT1) orcO_ok mixed noLoops_ok (by kernel_rfl) (by kernel_rfl) (X := Nat × List Int)
    (fun x => [.i (x.1 : Int), .l x.2]) (fun x => x.1 < 4503599627370496 ∧ x.2.length + (desc x.1 52).length ≤ 60) (fun x => x.1) (fun x => (.exit 0, [.i 0, .l (x.2 ++ desc x.1 52)])) ?_
  rintro ⟨r, xs⟩ ⟨hr, hl⟩
  dsimp only at hr hl ⊢
  have h := li_round rd r xs
  by_cases h0 : r = 0
  · subst h0
    have hd : desc 0 52 = [] := desc_skip 52 (Nat.zero_le _) (fun i _ => Nat.zero_testBit i)
    rw [show liR ((0 : Nat) : Int) xs = some (.exit 0, [.i ((0 : Nat) : Int), .l xs], [(liA, liA), (liB, liB)]) from rfl] at h
    exact ⟨_, _, _, h, liCodes, .inr ⟨by simp, by rw [hd, List.append_nil]; rfl⟩⟩
  · obtain ⟨r', e1, e2, e3, e4⟩ := liR_step (xs := xs) hr h0 (by omega)
    rw [e2] at h
    refine ⟨_, _, _, h, liCodes, .inl ⟨rfl, (r', xs ++ [((Lib.bitLen r - 1 : Nat) : Int)]), rfl, ⟨e1, ?_⟩, e4, ?_⟩⟩
    · dsimp only
      rw [e3] at hl
      simp only [List.length_append, List.length_cons, List.length_nil] at hl ⊢
      omega
    · dsimp only
      rw [e3, List.append_assoc]; rfl
noncomputable def liTree : List PV → Fin
  | [.i r, .l xs] => .br (pB (0 ≤ r ∧ r < 4503599627370496 ∧ xs = [])) (.br (decide (r = 0)) (.leaf (.exit 0) (liT0.at [.i 0, .l []])) (.leaf (.exit 0) (liT1.at [.i 0, .l (desc r.toNat 52)]))) .no
  | _ => .no
noncomputable def liSum : LoopSum := lsumF 5 liT0 liLp liTree
theorem liSum_ok : LoopOk Tryd.prog liSum := by
  refine lsumF_ok (by kernel_rfl) (fun rd ps e1 s1 h => ?_)
  unfold liTree at h
  split at h
  · rename_i r xs
    simp only [Fin.pick] at h
    cases hc : pB (0 ≤ r ∧ r < 4503599627370496 ∧ xs = []) with
    | false => rw [hc] at h; cases h
    | true =>
      rw [hc, cond_true] at h
      rw [pB_iff] at hc
      obtain ⟨h0, h1, rfl⟩ := hc
      obtain ⟨n, rfl⟩ : ∃ n : Nat, r = n := ⟨r.toNat, by omega⟩
      have hf := li_first rd n []
      by_cases hz : n = 0
      · subst hz
        rw [decide_eq_true (show ((0 : Nat) : Int) = 0 from rfl)] at h
        cases h
        exact loop_leave (T2 := liT1) (T' := liT0) orcO_ok mixed noLoops_ok (by kernel_rfl) (by kernel_rfl) hf liCodes (by simp)
      · rw [decide_eq_false (show ¬ (n : Int) = 0 by omega)] at h
        cases h
        obtain ⟨r', e1, e2, e3, e4⟩ := liR_step (xs := []) (r := n) (by omega) hz (by simp)
        rw [e2] at hf
        have hd := desc_len n 52
        rw [e3] at hd
        simp only [List.length_cons] at hd
        obtain ⟨k, hk⟩ := li_loop rd (r', [((Lib.bitLen n - 1 : Nat) : Int)]) ⟨e1, by simp only [List.length_cons, List.length_nil]; omega⟩
        rw [show ((n : Int)).toNat = n by omega, e3]
        exact loop_peel (T2 := liT1) (T' := liT0) orcO_ok mixed noLoops_ok (by kernel_rfl) (by kernel_rfl) hf liCodes hk
  · cases h
noncomputable def liL : FuncId → Loops := fun f => match f with
  | 53 => sums (fun n => match n with | 1 => some liSum | _ => none)
  | _ => noLoops
theorem liL_ok : ∀ f, loopsOk Tryd.prog (liL f) := fun f => by
  unfold liL
  split
  · intro n g hg
    simp only [sums] at hg
    split at hg
    · cases hg; exact liSum_ok
    · cases hg
  · exact noLoops_ok
noncomputable def liO : Tm := ⟨[some (.tuple [.gs 0, .int .i64])], [.grow true 5 1 (.ints .u8)], []⟩
noncomputable abbrev orcLi : Oracle := inl Tryd.prog ftab tabO liL 100 never never (oracleOf emptyTab) 20
theorem orcLi_ok : OracleOk Tryd.prog orcLi := inl_ok (oracleOf_ok emptyTab_ok) ftab_ok tabO_ok liL_ok mixed 20
end Go.Proofs.YtbocdcnkmcejjaaDoor
