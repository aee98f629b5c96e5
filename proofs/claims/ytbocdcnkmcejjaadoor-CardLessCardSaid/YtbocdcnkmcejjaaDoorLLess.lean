/- Chapter 4: CardLess answers true, for any set and any suit. -/
import Derived.Test.YtbocdcnkmcejjaaDoorLess
namespace Go.Proofs.YtbocdcnkmcejjaaDoor
open Go Go.Eng
/-- A set without a suit. -/
def fN (m s : Nat) : Nat := m ^^^ hN m s
theorem f_bit {m s i : Nat} : (fN m s).testBit i = (m.testBit i && !decide (13 * s ≤ i ∧ i < 13 * s + 13)) := by
  unfold fN
  rw [Nat.testBit_xor, h_bit]
  cases m.testBit i <;> cases decide (13 * s ≤ i ∧ i < 13 * s + 13) <;> rfl
theorem f_lt {m s : Nat} (hm : m < 4503599627370496) : fN m s < 4503599627370496 := by
  have : fN m s < 2 ^ 52 := Nat.lt_pow_two_of_testBit _ fun i hi => by
    rw [f_bit, Nat.testBit_lt_two_pow (Nat.lt_of_lt_of_le hm (Nat.le_trans (show 4503599627370496 ≤ 2 ^ 52 by decide) (Nat.pow_le_pow_right (show 0 < 2 by decide) hi)))]
    rfl
  exact this
theorem f_zero (m s : Nat) : hN (fN m s) s = 0 := Nat.eq_of_testBit_eq fun i => by
  rw [h_bit, f_bit, Nat.zero_testBit]
  cases m.testBit i <;> cases decide (13 * s ≤ i ∧ i < 13 * s + 13) <;> rfl
theorem f_keep (m s : Nat) : keepS m (fN m s) s := fun i hi => by rw [f_bit, decide_eq_false hi]; simp
noncomputable def clTree1 : List PV → Fin
  | [.i m, .i s, .b b, .i r, .i l, .l g] => .br (pB (0 ≤ m ∧ m < 4503599627370496 ∧ 0 ≤ s ∧ s ≤ 3 ∧ r = m ∧ l = 52)) (.leaf (.exit 0) (clX1.at [.i m, .i s, .b b, .i (fN m.toNat s.toNat : Nat), .l g])) .no
  | _ => .no
noncomputable def clTree2 : List PV → Fin
  | [.i m, .i s, .b b, .i r, .i c, .l g] => .br (pB (0 ≤ m ∧ m < 4503599627370496 ∧ 0 ≤ s ∧ s ≤ 3 ∧ r = (fN m.toNat s.toNat : Nat) ∧ c = 0)) (.leaf (.exit 2) (clX1.at [.i m, .i s, .b b, .i r, .l g])) .no
  | _ => .no
noncomputable def clSum1 : LoopSum := lsumF 1 clT1 clLp1 clTree1
noncomputable def clSum2 : LoopSum := lsumF 1 clT2 clLp2 clTree2
theorem clSum1_ok : LoopOk Tryd.prog clSum1 := by
  refine lsumF_ok (by kernel_rfl) (fun rd ps e1 s1 h => ?_)
  unfold clTree1 at h
  split at h
  · rename_i m s b r l g
    simp only [Fin.pick] at h
    cases hc : pB (0 ≤ m ∧ m < 4503599627370496 ∧ 0 ≤ s ∧ s ≤ 3 ∧ r = m ∧ l = 52) with
    | false => rw [hc] at h; cases h
    | true =>
      rw [hc, cond_true] at h
      rw [pB_iff] at hc
      obtain ⟨h0, h1, h2, h3, rfl, rfl⟩ := hc
      cases h
      obtain ⟨n, rfl⟩ : ∃ n : Nat, r = n := ⟨r.toNat, by omega⟩
      obtain ⟨t, rfl⟩ : ∃ t : Nat, s = t := ⟨s.toNat, by omega⟩
      rw [show ((n : Int)).toNat = n by omega, show ((t : Int)).toNat = t by omega]
      exact cl_loop1 rd n t b g (by omega) (fN n t) (f_lt (by omega)) (f_zero _ _) (f_keep _ _) (n, 52) ⟨by dsimp only; omega, fun i _ => rfl, Nat.lt_of_lt_of_le (h_lt (by dsimp only; omega)) (show 4503599627370496 ≤ 2 ^ 52 by decide), by dsimp only; omega⟩
  · cases h
theorem clSum2_ok : LoopOk Tryd.prog clSum2 := by
  refine lsumF_ok (by kernel_rfl) (fun rd ps e1 s1 h => ?_)
  unfold clTree2 at h
  split at h
  · rename_i m s b r c g
    simp only [Fin.pick] at h
    cases hc : pB (0 ≤ m ∧ m < 4503599627370496 ∧ 0 ≤ s ∧ s ≤ 3 ∧ r = (fN m.toNat s.toNat : Nat) ∧ c = 0) with
    | false => rw [hc] at h; cases h
    | true =>
      rw [hc, cond_true] at h
      rw [pB_iff] at hc
      obtain ⟨h0, h1, h2, h3, rfl, rfl⟩ := hc
      cases h
      obtain ⟨n, rfl⟩ : ∃ n : Nat, m = n := ⟨m.toNat, by omega⟩
      obtain ⟨t, rfl⟩ : ∃ t : Nat, s = t := ⟨s.toNat, by omega⟩
      rw [show ((n : Int)).toNat = n by omega, show ((t : Int)).toNat = t by omega]
      exact cl_loop2 rd n t (fN n t) b g (by omega) (f_lt (by omega)) (f_zero _ _) (f_keep _ _) 0 (by omega)
  · cases h
noncomputable def clL : FuncId → Loops := fun f => match f with
  | 5 => sums (fun n => match n with | 4 => some clSum1 | 11 => some clSum2 | _ => none)
  | _ => noLoops
theorem clL_ok : ∀ f, loopsOk Tryd.prog (clL f) := fun f => by
  unfold clL
  split
  · intro n g hg
    simp only [sums] at hg
    split at hg
    · cases hg; exact clSum1_ok
    · cases hg; exact clSum2_ok
    · cases hg
  · exact noLoops_ok
theorem cl_all (m s : Int) : lawG tabL clL 5 Tryd.f5 [.int .u64 m, .int .u8 s] = cond (codesB [(clLp1, clLp1)])
    (bif pB (0 ≤ m.tmod 4503599627370496 ∧ m.tmod 4503599627370496 < 4503599627370496 ∧ 0 ≤ s.tmod 4 ∧ s.tmod 4 ≤ 3 ∧ m.tmod 4503599627370496 = m.tmod 4503599627370496 ∧ (52 : Int) = 52) then
      cond (codesB [(clLp2, clLp2)])
        (bif pB (0 ≤ m.tmod 4503599627370496 ∧ m.tmod 4503599627370496 < 4503599627370496 ∧ 0 ≤ s.tmod 4 ∧ s.tmod 4 ≤ 3 ∧ ((fN (m.tmod 4503599627370496).toNat (s.tmod 4).toNat : Nat) : Int) = ((fN (m.tmod 4503599627370496).toNat (s.tmod 4).toNat : Nat) : Int) ∧ (0 : Int) = 0) then
          some (.bool true) else none) none
    else none) none := by kernel_rfl
theorem codes1 {a : Code} : codesB [(a, a)] = true := by rw [codesB_iff]; intro x hx; simp at hx; rw [hx]
theorem cl_true {m s : Int} (hm : 0 ≤ m) (hs : 0 ≤ s) : lawG tabL clL 5 Tryd.f5 [.int .u64 m, .int .u8 s] = some (.bool true) := by
  have e1 : m.tmod 4503599627370496 = m % 4503599627370496 := Int.tmod_eq_emod_of_nonneg hm
  have e2 : s.tmod 4 = s % 4 := Int.tmod_eq_emod_of_nonneg hs
  rw [cl_all, codes1, codes1, pB_iff.2 ⟨by omega, by omega, by omega, by omega, rfl, rfl⟩, pB_iff.2 ⟨by omega, by omega, by omega, by omega, rfl, rfl⟩]
  rfl
end Go.Proofs.YtbocdcnkmcejjaaDoor
