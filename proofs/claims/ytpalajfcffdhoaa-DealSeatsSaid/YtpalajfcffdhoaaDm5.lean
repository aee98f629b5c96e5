/- Texts merged: Dm5, Dm4. -/
import Derived.Test.YtpalajfcffdhoaaDm3
/- Chapter 6, plainly: the deal that numbers make is right. -/
namespace Go.Deal
def swp (ys : List Int) (i j : Nat) : List Int := (ys.set i (ys.getD j 0)).set j (ys.getD i 0)
theorem swp_len (ys : List Int) (i j : Nat) : (swp ys i j).length = ys.length := by simp [swp]
theorem set_perm : ∀ {ys : List Int} {i : Nat} (x : Int) (hi : i < ys.length), List.Perm (ys[i] :: ys.set i x) (x :: ys)
  | y :: r, 0, x, _ => List.Perm.swap _ _ _
  | y :: r, i + 1, x, hi => by
    simp only [List.set_cons_succ, List.getElem_cons_succ]
    refine (List.Perm.swap _ _ _).trans (((set_perm x (by simpa using hi)).cons y).trans (List.Perm.swap _ _ _))
theorem swp_perm {ys : List Int} {i j : Nat} (hi : i < ys.length) (hj : j < ys.length) : (swp ys i j).Perm ys := by
  unfold swp
  have e1 : ys.getD j 0 = ys[j] := by simp [hj]
  have e2 : ys.getD i 0 = ys[i] := by simp [hi]
  rw [e1, e2]
  have hj' : j < (ys.set i ys[j]).length := by simpa using hj
  have h1 := set_perm ys[j] hi
  have h2 := set_perm ys[i] hj'
  by_cases e : i = j
  · subst e; simp
  · have e3 : (ys.set i ys[j])[j] = ys[j] := List.getElem_set_ne e hj'
    rw [e3] at h2
    exact (List.perm_cons ys[j]).1 (h2.trans h1)
def dl : Nat → List Int → List Int → List Int
  | _, [], xs => xs
  | i, n :: l, xs => if i < 52 then dl (i + 1) l (swp xs i (i + (n.toNat % (52 - i)))) else xs
theorem dl_perm : ∀ (l : List Int) (i : Nat) (xs : List Int), xs.length = 52 → (dl i l xs).Perm xs
  | [], _, _, _ => List.Perm.refl _
  | n :: l, i, xs, h => by
    simp only [dl]
    split
    · have : n.toNat % (52 - i) < 52 - i := Nat.mod_lt _ (by omega)
      exact (dl_perm l _ _ (by rw [swp_len]; exact h)).trans (swp_perm (by omega) (by omega))
    · exact List.Perm.refl _
def or0 : List Int := (List.range 52).map Int.ofNat
def dlX (l : List Int) : List Int := dl 0 l or0
theorem dlX_perm (l : List Int) : ((dlX l).map Int.toNat).Perm (List.range 52) := by
  have h := (dl_perm l 0 or0 (by decide)).map Int.toNat
  have e : or0.map Int.toNat = List.range 52 := by decide
  rw [e] at h
  exact h
theorem dlX_len (l : List Int) : (dlX l).length = 52 := by have := (dlX_perm l).length_eq; simpa using this
theorem dlX_mem (l : List Int) {c : Int} (h : c ∈ dlX l) : 0 ≤ c ∧ c < 52 := by
  have h2 := (dl_perm l 0 or0 (by decide)).mem_iff.1 h
  simp only [or0, List.mem_map, List.mem_range] at h2
  obtain ⟨n, hn, rfl⟩ := h2
  exact ⟨Int.natCast_nonneg _, by simp; omega⟩
/-- The hand of a seat. -/
def hnd (l : List Int) (k : Nat) : Nat := mk 0 ((((dlX l).drop (13 * k)).take 13).map Int.toNat)
theorem made_right (l : List Int) : RightD (hnd l 0) (hnd l 1) (hnd l 2) (hnd l 3) := by
  have hp := dlX_perm l
  have hl := dlX_len l
  have e : (dlX l).map Int.toNat = ((((dlX l).drop (13 * 0)).take 13).map Int.toNat) ++ (((((dlX l).drop (13 * 1)).take 13).map Int.toNat) ++ (((((dlX l).drop (13 * 2)).take 13).map Int.toNat) ++ ((((dlX l).drop (13 * 3)).take 13).map Int.toNat))) := by
    rw [← List.map_append, ← List.map_append, ← List.map_append]
    congr 1
    have q : ∀ k, (dlX l).drop (13 * k) = ((dlX l).drop (13 * k)).take 13 ++ (dlX l).drop (13 * (k + 1)) := fun k => by
      have := List.take_append_drop 13 ((dlX l).drop (13 * k))
      rw [List.drop_drop] at this
      rw [show 13 * (k + 1) = 13 * k + 13 by omega, this]
    have q0 := q 0; have q1 := q 1; have q2 := q 2; have q3 := q 3
    rw [show 13 * (3 + 1) = 52 by decide, List.drop_eq_nil_of_le (show (dlX l).length ≤ 52 by omega), List.append_nil] at q3
    rw [show 13 * 0 = 0 by decide, List.drop_zero] at q0
    rw [← q3, ← q2, ← q1]
    exact q0
  rw [e] at hp
  refine mk_right ?_ ?_ ?_ ?_ ?_ ?_
  · exact (hp.nodup_iff).2 List.nodup_range
  · intro x hx
    have := hp.mem_iff.1 hx
    simpa using this
  all_goals simp [hl]
end Go.Deal

/- Chapter 6, plainly: as many completions for a turned deal; of one card, all seats together. -/
namespace Go.Deal
def fct : Nat → Nat
  | 0 => 1
  | n + 1 => (n + 1) * fct n
theorem fct_pos : ∀ n, 0 < fct n
  | 0 => by decide
  | n + 1 => Nat.mul_pos (by omega) (fct_pos n)
theorem bc_fct : ∀ a b : Nat, bc (a + b) a * (fct a * fct b) = fct (a + b)
  | 0, b => by rw [bc_zero, Nat.one_mul]; simp [fct]
  | a + 1, 0 => by rw [Nat.add_zero, bc_self]; simp [fct]
  | a + 1, b + 1 => by
    have h1 := bc_fct a (b + 1)
    have h2 := bc_fct (a + 1) b
    have e1 : a + 1 + (b + 1) = (a + b + 1) + 1 := by omega
    have e2 : a + (b + 1) = a + b + 1 := by omega
    have e3 : a + 1 + b = a + b + 1 := by omega
    rw [e2] at h1
    rw [e3] at h2
    rw [e1, bc, Nat.add_mul]
    have q1 : bc (a + b + 1) a * (fct (a + 1) * fct (b + 1)) = (a + 1) * fct (a + b + 1) := by
      rw [← h1, show fct (a + 1) = (a + 1) * fct a from rfl, Nat.mul_assoc (a + 1), Nat.mul_left_comm]
    have q2 : bc (a + b + 1) (a + 1) * (fct (a + 1) * fct (b + 1)) = (b + 1) * fct (a + b + 1) := by
      rw [← h2, show fct (b + 1) = (b + 1) * fct b from rfl, Nat.mul_left_comm (fct (a + 1)), Nat.mul_left_comm]
    rw [q1, q2, show fct (a + b + 1 + 1) = (a + b + 1 + 1) * fct (a + b + 1) from rfl, ← Nat.add_mul]
    congr 1
/-- The product of the factorials. -/
def pf : List Nat → Nat
  | [] => 1
  | l :: r => fct l * pf r
theorem pf_pos : ∀ l : List Nat, 0 < pf l
  | [] => by decide
  | l :: r => Nat.mul_pos (fct_pos l) (pf_pos r)
theorem wy_pf : ∀ l : List Nat, wy l * pf l = fct (sm l)
  | [] => by decide
  | l :: r => by
    rw [wy, pf, sm, ← bc_fct, ← wy_pf r]
    rw [Nat.mul_assoc, Nat.mul_left_comm (wy r)]
theorem wy_rot (a b c d : Nat) : wy [d, a, b, c] = wy [a, b, c, d] := by
  have h1 := wy_pf [a, b, c, d]
  have h2 := wy_pf [d, a, b, c]
  have e : pf [d, a, b, c] = pf [a, b, c, d] := by
    simp only [pf, Nat.mul_one]
    rw [Nat.mul_left_comm, Nat.mul_left_comm (fct d), Nat.mul_comm (fct d)]
  have e2 : sm [d, a, b, c] = sm [a, b, c, d] := by simp only [sm]; omega
  rw [e, e2, ← h1] at h2
  exact Nat.eq_of_mul_eq_mul_right (pf_pos _) h2
/-- With one card more in the hand of a seat. -/
theorem wy_sum {a b c d : Nat} (h : 0 < sm [a, b, c, d]) :
    (if a = 0 then 0 else wy [a - 1, b, c, d]) + (if b = 0 then 0 else wy [a, b - 1, c, d]) + (if c = 0 then 0 else wy [a, b, c - 1, d]) + (if d = 0 then 0 else wy [a, b, c, d - 1]) = wy [a, b, c, d] := by
  rw [← sumW_eq h]
  simp only [sumW, wy, sm, Nat.mul_one, Nat.mul_zero, Nat.add_zero, Nat.mul_add]
  rw [Nat.add_assoc, Nat.add_assoc]
  congr 1
  congr 1
  · by_cases hb : b = 0
    · rw [if_pos hb, if_pos hb, Nat.mul_zero]
    · rw [if_neg hb, if_neg hb, show a + (b - 1 + (c + d)) = a + (b + (c + d)) - 1 by omega]
  · congr 1
    · by_cases hc : c = 0
      · rw [if_pos hc, if_pos hc, Nat.mul_zero, Nat.mul_zero]
      · rw [if_neg hc, if_neg hc, show a + (b + (c - 1 + d)) = a + (b + (c + d)) - 1 by omega, show b + (c - 1 + d) = b + (c + d) - 1 by omega]
    · by_cases hd : d = 0
      · rw [if_pos hd, if_pos hd, Nat.mul_zero, Nat.mul_zero, Nat.mul_zero]
      · rw [if_neg hd, if_neg hd, show a + (b + (c + (d - 1))) = a + (b + (c + d)) - 1 by omega, show b + (c + (d - 1)) = b + (c + d) - 1 by omega, show c + (d - 1) = c + d - 1 by omega, bc_self (d - 1)]
end Go.Deal
