/- Chapter 4: CardOrder's loops as wholes. -/
import Derived.Test.YtbocdcnkmcejjaaDoorCo1
namespace Go.Proofs.YtbocdcnkmcejjaaDoor
open Go Go.Eng
theorem desc_suit {m s : Nat} : (desc m 52).filter (fun c => decide (suitI c = (s : Int))) = desc (hN m s) 52 := by
  refine desc_filter 52 fun i hi => ?_
  rw [h_bit, suit_nat hi]
  congr 1
  by_cases h : 13 * s ≤ i ∧ i < 13 * s + 13
  · rw [decide_eq_true h, decide_eq_true (by omega)]
  · rw [decide_eq_false h, decide_eq_false (by omega)]
noncomputable def coTree1 : List PV → Fin
  | [.i m, .b b, .i n, .i i, .l g, .l xs] => .br (pB (0 ≤ m ∧ m ≤ 4503599627370495 ∧ i = 0 ∧ xs = desc m.toNat 52 ∧ n = Int.ofNat xs.length)) (.leaf (.exit 0) (coX1.at [.i m, .b b, .l g, .l xs])) .no
  | _ => .no
noncomputable def coTree3 : List PV → Fin
  | [.i m, .b b, .i s, .i n, .i i, .l g, .l xs, .l ys] => .br (pB (0 ≤ m ∧ m ≤ 4503599627370495 ∧ 0 ≤ s ∧ s ≤ 3 ∧ i = 0 ∧ xs = desc m.toNat 52 ∧ n = Int.ofNat xs.length ∧ ys = [])) (.leaf (.exit 4) (coX3.at [.i m, .b b, .i s, .l g, .l xs, .l (desc (hN m.toNat s.toNat) 52)])) .no
  | _ => .no
noncomputable def coSum1 : LoopSum := lsumF 1 coT1 coLp1 coTree1
noncomputable def coSum3 : LoopSum := lsumF 1 coT3 coLp3 coTree3
theorem coSum1_ok : LoopOk Tryd.prog coSum1 := by
  refine lsumF_ok (by kernel_rfl) (fun rd ps e1 s1 h => ?_)
  unfold coTree1 at h
  split at h
  · rename_i m b n i g xs
    simp only [Fin.pick] at h
    cases hc : pB (0 ≤ m ∧ m ≤ 4503599627370495 ∧ i = 0 ∧ xs = desc m.toNat 52 ∧ n = Int.ofNat xs.length) with
    | false => rw [hc] at h; cases h
    | true =>
      rw [hc, cond_true] at h
      rw [pB_iff] at hc
      obtain ⟨h0, h1, rfl, rfl, rfl⟩ := hc
      cases h
      obtain ⟨k, rfl⟩ : ∃ k : Nat, m = k := ⟨m.toNat, by omega⟩
      rw [show ((k : Int)).toNat = k by omega]
      exact co_loop1 rd k b g (by omega) 0 (by omega)
  · cases h
theorem coSum3_ok : LoopOk Tryd.prog coSum3 := by
  refine lsumF_ok (by kernel_rfl) (fun rd ps e1 s1 h => ?_)
  unfold coTree3 at h
  split at h
  · rename_i m b s n i g xs ys
    simp only [Fin.pick] at h
    cases hc : pB (0 ≤ m ∧ m ≤ 4503599627370495 ∧ 0 ≤ s ∧ s ≤ 3 ∧ i = 0 ∧ xs = desc m.toNat 52 ∧ n = Int.ofNat xs.length ∧ ys = []) with
    | false => rw [hc] at h; cases h
    | true =>
      rw [hc, cond_true] at h
      rw [pB_iff] at hc
      obtain ⟨h0, h1, h2, h3, rfl, rfl, rfl, rfl⟩ := hc
      cases h
      obtain ⟨k, rfl⟩ : ∃ k : Nat, m = k := ⟨m.toNat, by omega⟩
      obtain ⟨t, rfl⟩ : ∃ t : Nat, s = t := ⟨s.toNat, by omega⟩
      rw [show ((k : Int)).toNat = k by omega, show ((t : Int)).toNat = t by omega, ← desc_suit (m := k) (s := t)]
      have := co_loop3 rd k t b g (desc k 52) (desc_len k 52) (0, []) ⟨by dsimp only; omega, by simp⟩
      rw [List.drop_zero] at this
      exact this
  · cases h
noncomputable def coL3 : FuncId → Loops := fun f => match f with
  | 6 => sums (fun n => match n with | 16 => some coSum3 | _ => none)
  | _ => noLoops
theorem coL3_ok : ∀ f, loopsOk Tryd.prog (coL3 f) := fun f => by
  unfold coL3
  split
  · intro n g hg
    simp only [sums] at hg
    split at hg
    · cases hg; exact coSum3_ok
    · cases hg
  · exact noLoops_ok
noncomputable def coLp2 : Code := loopOf 12 Tryd.f6
def coT2 : Tm := ⟨mkS [(0, .int .u64), (2, .bool), (3, .gs 1), (7, .int .u8)] 0 155, [.glob 0 (.ints .u8), .grow true 5 1 (.ints .u8)], []⟩
def coX2 : Tm := ⟨mkS [(0, .int .u64), (2, .bool), (3, .gs 1)] 0 155, [.glob 0 (.ints .u8), .grow true 5 1 (.ints .u8)], []⟩
end Go.Proofs.YtbocdcnkmcejjaaDoor
