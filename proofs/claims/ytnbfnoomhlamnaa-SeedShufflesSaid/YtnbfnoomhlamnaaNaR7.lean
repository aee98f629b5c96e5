/- Chapter 2, the reference: mul: the outer loop. -/
import Derived.Test.YtnbfnoomhlamnaaNaR6
namespace Go.Proofs.Ytnbfnoomhlamnaa.N2
open Go Go.Eng
noncomputable def mlTree2 (n1 n2 : Bool) : List PV → Fin
  | [.i c, .i j, .l xs, .l ys, .l zs] => .br (decide (j = 0 ∧ 0 ≤ c ∧ c < nI xs) && pB (mInv (81 * (c.toNat * ys.length)) xs ys zs)) (.leaf (.exit 2) ((mlT1 n1 n2).at [.i c, .l xs, .l ys, .l (mrow (xs.getD c.toNat 0) ys c.toNat zs)])) .no
  | _ => .no
noncomputable def mlL2 (n1 n2 : Bool) : Loops := sums (fun n => match n with | 6 => some (lsumF 2 (mlT2 n1 n2) mlLp2 (mlTree2 n1 n2)) | _ => none)
theorem mul_lt {a b c : Nat} (h : a < b) : a * c + c ≤ b * c := by
  have := Nat.mul_le_mul_right c (show a + 1 ≤ b from h)
  rw [Nat.add_mul, Nat.one_mul] at this
  exact this
theorem mul_big {a b : Nat} (ha : a ≤ 1000000) (hb : b ≤ 1000000) : a * b ≤ 1000000000000 := by
  have := Nat.mul_le_mul ha hb
  omega
theorem mlL2_ok (n1 n2 : Bool) : loopsOk Try.prog (mlL2 n1 n2) := by
  intro n g hg
  simp only [mlL2, sums] at hg
  split at hg
  · cases hg
    refine lsumF_ok (by cases n1 <;> cases n2 <;> kernel_rfl) (fun rd ps e1 st1 hq => ?_)
    unfold mlTree2 at hq
    split at hq
    · rename_i c j xs ys zs
      simp only [Fin.pick] at hq
      cases hc : (decide (j = 0 ∧ 0 ≤ c ∧ c < nI xs) && pB (mInv (81 * (c.toNat * ys.length)) xs ys zs)) with
      | false => rw [hc] at hq; cases hq
      | true =>
        rw [hc, cond_true] at hq
        cases hq
        simp only [Bool.and_eq_true, decide_eq_true_eq, pB_iff] at hc
        obtain ⟨⟨rfl, h0, h1⟩, hm⟩ := hc
        rw [nI_eq] at h1
        obtain ⟨k, rfl⟩ : ∃ k : Nat, c = k := ⟨c.toNat, by omega⟩
        rw [show ((k : Int)).toNat = k from rfl] at hm ⊢
        have h2 := mul_lt (c := ys.length) (show k < xs.length by omega)
        have h3 := mul_big hm.2.2.1 hm.2.2.2.1
        have := ml_loop2 n1 n2 rd xs ys k (by omega) (0, 81 * (k * ys.length), zs) ⟨hm, Nat.zero_le _, by dsimp only; omega⟩
        dsimp only at this
        rw [List.drop_zero, Nat.add_zero] at this
        exact this
    · cases hq
  · cases hg
end Go.Proofs.Ytnbfnoomhlamnaa.N2
