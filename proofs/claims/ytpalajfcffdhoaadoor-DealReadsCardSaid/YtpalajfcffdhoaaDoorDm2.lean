/- Chapter 6, plainly: the completions of a deal by number and back. -/
import Derived.Test.YtpalajfcffdhoaaDoorDm
namespace Go.Deal
def sm : List Nat → Nat
  | [] => 0
  | l :: r => l + sm r
/-- In how many ways as many cards as are wanted can be given. -/
def wy : List Nat → Nat
  | [] => 1
  | l :: r => bc (l + sm r) l * wy r
theorem wy_pos : ∀ l : List Nat, 0 < wy l
  | [] => by decide
  | l :: r => Nat.mul_pos (bc_pos (by omega)) (wy_pos r)
def comp : List Nat → Nat → Nat → List Nat
  | [], _, _ => []
  | l :: r, m, n => pick m 52 l (n / wy r) :: comp r (nd m (pick m 52 l (n / wy r))) (n % wy r)
def cs : List Nat → List Nat
  | [] => []
  | g :: r => cnt g 52 :: cs r
def idx : List Nat → Nat → Nat
  | [], _ => 0
  | g :: r, m => rank m g 52 * wy (cs r) + idx r (nd m g)
/-- Sets that are taken out of m one after the other. -/
def Good : List Nat → Nat → Prop
  | [], _ => True
  | g :: r, m => Sub g m ∧ g < 2 ^ 52 ∧ Good r (nd m g)
theorem comp_ok : ∀ {l : List Nat} {m n : Nat}, cnt m 52 = sm l → n < wy l → Good (comp l m n) m ∧ cs (comp l m n) = l ∧ idx (comp l m n) m = n
  | [], m, n, _, h => ⟨trivial, rfl, by simp only [wy] at h; simp only [comp, idx]; omega⟩
  | l :: r, m, n, hm, h => by
    simp only [sm] at hm
    simp only [wy] at h
    have hq : n / wy r < bc (cnt m 52) l := by rw [hm]; exact Nat.div_lt_of_lt_mul (by rw [Nat.mul_comm]; exact h)
    have h1 := pick_sub m 52 l (n / wy r)
    have h2 := pick_cnt m hq
    have h3 := pick_lt m 52 l (n / wy r)
    have h4 := rank_pick m hq
    have h5 := cnt_nd h1 52
    obtain ⟨a, b, c⟩ := comp_ok (l := r) (m := nd m (pick m 52 l (n / wy r))) (n := n % wy r) (by omega) (Nat.mod_lt _ (wy_pos r))
    refine ⟨⟨h1, h3, a⟩, ?_, ?_⟩
    · simp only [comp, cs]; rw [h2, b]
    · simp only [comp, idx]
      rw [b, c, h4, Nat.mul_comm]; exact Nat.div_add_mod _ _
theorem idx_lt : ∀ {g : List Nat} {m : Nat}, Good g m → cnt m 52 = sm (cs g) → idx g m < wy (cs g)
  | [], m, _, _ => by simp [idx, wy, cs]
  | g :: r, m, ⟨h1, h2, h3⟩, hm => by
    simp only [cs, sm] at hm
    have h5 := cnt_nd h1 52
    have ih := idx_lt h3 (by omega)
    have hr := rank_lt h1 52
    rw [hm] at hr
    simp only [idx, wy, cs]
    calc rank m g 52 * wy (cs r) + idx r (nd m g) < rank m g 52 * wy (cs r) + wy (cs r) := by omega
      _ = (rank m g 52 + 1) * wy (cs r) := by rw [Nat.add_mul, Nat.one_mul]
      _ ≤ bc (cnt g 52 + sm (cs r)) (cnt g 52) * wy (cs r) := Nat.mul_le_mul_right _ hr
theorem comp_idx : ∀ {g : List Nat} {m : Nat}, Good g m → cnt m 52 = sm (cs g) → comp (cs g) m (idx g m) = g
  | [], m, _, _ => rfl
  | g :: r, m, ⟨h1, h2, h3⟩, hm => by
    simp only [cs, sm] at hm
    have h5 := cnt_nd h1 52
    have hm' : cnt (nd m g) 52 = sm (cs r) := by omega
    have ih := comp_idx h3 hm'
    have hl := idx_lt h3 hm'
    have e1 : (rank m g 52 * wy (cs r) + idx r (nd m g)) / wy (cs r) = rank m g 52 := by
      rw [Nat.add_comm, Nat.add_mul_div_right _ _ (wy_pos _), Nat.div_eq_of_lt hl, Nat.zero_add]
    have e2 : (rank m g 52 * wy (cs r) + idx r (nd m g)) % wy (cs r) = idx r (nd m g) := by
      rw [Nat.add_comm, Nat.add_mul_mod_self_right, Nat.mod_eq_of_lt hl]
    simp only [comp, idx, cs]
    rw [e1, e2, pick_rank h1 h2, ih]
/-- The order of completions: by the first hand in which they differ. -/
def lex : List Nat → List Nat → Int
  | a :: r, b :: s => if a < b then -1 else if b < a then 1 else lex r s
  | _, _ => 0
def sgn (a b : Nat) : Int := if a < b then -1 else if b < a then 1 else 0
theorem idx_lex : ∀ {g k : List Nat} {m : Nat}, Good g m → Good k m → cs g = cs k → cnt m 52 = sm (cs g) → lex g k = sgn (idx g m) (idx k m)
  | [], [], m, _, _, _, _ => rfl
  | [], b :: s, m, _, _, h, _ => by cases h
  | a :: r, [], m, _, _, h, _ => by cases h
  | a :: r, b :: s, m, ⟨a1, a2, a3⟩, ⟨b1, b2, b3⟩, hc, hm => by
    simp only [cs, List.cons.injEq] at hc
    obtain ⟨hc1, hc2⟩ := hc
    simp only [cs, sm] at hm
    have h5 := cnt_nd a1 52
    have h6 := cnt_nd b1 52
    have la := idx_lt a3 (by omega)
    have lb := idx_lt b3 (by rw [← hc2]; omega)
    simp only [lex, idx]
    rw [← hc2] at lb ⊢
    by_cases h : a < b
    · have hr := rank_mono a1 b1 a2 b2 hc1 h
      have : rank m a 52 * wy (cs r) + wy (cs r) ≤ rank m b 52 * wy (cs r) := by rw [← Nat.succ_mul]; exact Nat.mul_le_mul_right _ hr
      rw [if_pos h, sgn, if_pos (by omega)]
    · by_cases h' : b < a
      · have hr := rank_mono b1 a1 b2 a2 hc1.symm h'
        have : rank m b 52 * wy (cs r) + wy (cs r) ≤ rank m a 52 * wy (cs r) := by rw [← Nat.succ_mul]; exact Nat.mul_le_mul_right _ hr
        rw [if_neg h, if_pos h', sgn, if_neg (by omega), if_pos (by omega)]
      · obtain rfl : a = b := by omega
        rw [if_neg h, if_neg h, idx_lex a3 b3 hc2 (by omega)]
        unfold sgn
        by_cases q : idx r (nd m a) < idx s (nd m a)
        · rw [if_pos q, if_pos (by omega)]
        · rw [if_neg q, if_neg (show ¬ rank m a 52 * wy (cs r) + idx r (nd m a) < rank m a 52 * wy (cs r) + idx s (nd m a) by omega)]
          by_cases q' : idx s (nd m a) < idx r (nd m a)
          · rw [if_pos q', if_pos (by omega)]
          · rw [if_neg q', if_neg (by omega)]
/-! ### of one card, who gets it -/
def sumW : List Nat → Nat
  | [] => 0
  | l :: r => (if l = 0 then 0 else bc (l - 1 + sm r) (l - 1) * wy r) + bc (l + sm r - 1) l * sumW r
theorem sumW_zero : ∀ {l : List Nat}, sm l = 0 → sumW l = 0
  | [], _ => rfl
  | l :: r, h => by
    simp only [sm] at h
    obtain rfl : l = 0 := by omega
    simp only [sumW]
    rw [sumW_zero (l := r) (by omega)]; simp
theorem sumW_eq : ∀ {l : List Nat}, 0 < sm l → sumW l = wy l
  | [], h => by simp [sm] at h
  | l :: r, h => by
    simp only [sm] at h
    simp only [sumW, wy]
    rcases Nat.eq_zero_or_pos (sm r) with h0 | h0
    · rw [sumW_zero h0, h0, if_neg (by omega), Nat.add_zero, Nat.add_zero, bc_self, bc_self]; simp
    · rw [sumW_eq h0]
      cases l with
      | zero => rw [if_pos rfl, bc_zero, bc_zero]; simp
      | succ l =>
        rw [if_neg (Nat.succ_ne_zero l), Nat.add_sub_cancel, show l + 1 + sm r - 1 = l + sm r by omega, show l + 1 + sm r = (l + sm r) + 1 by omega, bc, Nat.add_mul]
theorem wy_four {a b c d : Nat} (ha : a ≤ 13) (hb : b ≤ 13) (hc : c ≤ 13) (hd : d ≤ 13) : wy [a, b, c, d] ≤ 2 ^ 117 ∧ wy [b, c, d] ≤ 2 ^ 65 ∧ wy [c, d] ≤ 2 ^ 26 ∧ wy [d] = 1 := by
  have e3 : wy [d] = 1 := by simp only [wy, sm]; rw [Nat.add_zero, bc_self]
  have e2 : wy [c, d] ≤ 2 ^ 26 := by
    rw [wy, e3, Nat.mul_one]; exact Nat.le_trans (bc_le _ _) (Nat.pow_le_pow_right (by decide) (by simp only [sm]; omega))
  have e1 : wy [b, c, d] ≤ 2 ^ 65 := by
    rw [wy]; exact Nat.le_trans (Nat.mul_le_mul (Nat.le_trans (bc_le _ _) (Nat.pow_le_pow_right (show 2 > 0 by decide) (show b + sm [c, d] ≤ 39 by simp only [sm]; omega))) e2) (by decide)
  refine ⟨?_, e1, e2, e3⟩
  rw [wy]; exact Nat.le_trans (Nat.mul_le_mul (Nat.le_trans (bc_le _ _) (Nat.pow_le_pow_right (show 2 > 0 by decide) (show a + sm [b, c, d] ≤ 52 by simp only [sm]; omega))) e1) (by decide)
end Go.Deal
