/- Texts merged: Dm5, Dm4, Dm6. -/
import Derived.Test.YtpalajfcffdhoaaDoorDm3
/- Chapter 6, plainly: the deal that numbers make is right. -/
namespace Go.Deal
def swp (ys : List Int) (i j : Nat) : List Int := (ys.set i (ys.getD j 0)).set j (ys.getD i 0)
theorem swp_len (ys : List Int) (i j : Nat) : (swp ys i j).length = ys.length := by simp [swp]
theorem set_perm : ∀ {ys : List Int} {i : Nat} (x : Int) (hi : i < ys.length), List.Perm (ys[i] :: ys.set i x) (x :: ys)
  | y :: r, 0, x, _ => List.Perm.swap _ _ _
  | y :: r, i + 1, x, hi => by
    simp only [List.set_cons_succ, List.getElem_cons_succ]
    refine (List.Perm.swap _ _ _).trans (((set_perm x (by simpa using hi)).cons y).trans (List.Perm.swap _ _ _))
theorem swp_perm {ys : List Int} {i j : Nat} (hi : i < ys.length) (hj : j < ys.length) : (swp ys i j).Perm ys := by
  unfold swp
  have e1 : ys.getD j 0 = ys[j] := by simp [hj]
  have e2 : ys.getD i 0 = ys[i] := by simp [hi]
  rw [e1, e2]
  have hj' : j < (ys.set i ys[j]).length := by simpa using hj
  have h1 := set_perm ys[j] hi
  have h2 := set_perm ys[i] hj'
  by_cases e : i = j
  · subst e; simp
  · have e3 : (ys.set i ys[j])[j] = ys[j] := List.getElem_set_ne e hj'
    rw [e3] at h2
    exact (List.perm_cons ys[j]).1 (h2.trans h1)
def dl : Nat → List Int → List Int → List Int
  | _, [], xs => xs
  | i, n :: l, xs => if i < 52 then dl (i + 1) l (swp xs i (i + (n.toNat % (52 - i)))) else xs
theorem dl_perm : ∀ (l : List Int) (i : Nat) (xs : List Int), xs.length = 52 → (dl i l xs).Perm xs
  | [], _, _, _ => List.Perm.refl _
  | n :: l, i, xs, h => by
    simp only [dl]
    split
    · have : n.toNat % (52 - i) < 52 - i := Nat.mod_lt _ (by omega)
      exact (dl_perm l _ _ (by rw [swp_len]; exact h)).trans (swp_perm (by omega) (by omega))
    · exact List.Perm.refl _
def or0 : List Int := (List.range 52).map Int.ofNat
def dlX (l : List Int) : List Int := dl 0 l or0
theorem dlX_perm (l : List Int) : ((dlX l).map Int.toNat).Perm (List.range 52) := by
  have h := (dl_perm l 0 or0 (by decide)).map Int.toNat
  have e : or0.map Int.toNat = List.range 52 := by decide
  rw [e] at h
  exact h
theorem dlX_len (l : List Int) : (dlX l).length = 52 := by have := (dlX_perm l).length_eq; simpa using this
theorem dlX_mem (l : List Int) {c : Int} (h : c ∈ dlX l) : 0 ≤ c ∧ c < 52 := by
  have h2 := (dl_perm l 0 or0 (by decide)).mem_iff.1 h
  simp only [or0, List.mem_map, List.mem_range] at h2
  obtain ⟨n, hn, rfl⟩ := h2
  exact ⟨Int.natCast_nonneg _, by simp; omega⟩
/-- The hand of a seat. -/
def hnd (l : List Int) (k : Nat) : Nat := mk 0 ((((dlX l).drop (13 * k)).take 13).map Int.toNat)
theorem made_right (l : List Int) : RightD (hnd l 0) (hnd l 1) (hnd l 2) (hnd l 3) := by
  have hp := dlX_perm l
  have hl := dlX_len l
  have e : (dlX l).map Int.toNat = ((((dlX l).drop (13 * 0)).take 13).map Int.toNat) ++ (((((dlX l).drop (13 * 1)).take 13).map Int.toNat) ++ (((((dlX l).drop (13 * 2)).take 13).map Int.toNat) ++ ((((dlX l).drop (13 * 3)).take 13).map Int.toNat))) := by
    rw [← List.map_append, ← List.map_append, ← List.map_append]
    congr 1
    have q : ∀ k, (dlX l).drop (13 * k) = ((dlX l).drop (13 * k)).take 13 ++ (dlX l).drop (13 * (k + 1)) := fun k => by
      have := List.take_append_drop 13 ((dlX l).drop (13 * k))
      rw [List.drop_drop] at this
      rw [show 13 * (k + 1) = 13 * k + 13 by omega, this]
    have q0 := q 0; have q1 := q 1; have q2 := q 2; have q3 := q 3
    rw [show 13 * (3 + 1) = 52 by decide, List.drop_eq_nil_of_le (show (dlX l).length ≤ 52 by omega), List.append_nil] at q3
    rw [show 13 * 0 = 0 by decide, List.drop_zero] at q0
    rw [← q3, ← q2, ← q1]
    exact q0
  rw [e] at hp
  refine mk_right ?_ ?_ ?_ ?_ ?_ ?_
  · exact (hp.nodup_iff).2 List.nodup_range
  · intro x hx
    have := hp.mem_iff.1 hx
    simpa using this
  all_goals simp [hl]
end Go.Deal

/- Chapter 6, plainly: as many completions for a turned deal; of one card, all seats together. -/
namespace Go.Deal
def fct : Nat → Nat
  | 0 => 1
  | n + 1 => (n + 1) * fct n
theorem fct_pos : ∀ n, 0 < fct n
  | 0 => by decide
  | n + 1 => Nat.mul_pos (by omega) (fct_pos n)
theorem bc_fct : ∀ a b : Nat, bc (a + b) a * (fct a * fct b) = fct (a + b)
  | 0, b => by rw [bc_zero, Nat.one_mul]; simp [fct]
  | a + 1, 0 => by rw [Nat.add_zero, bc_self]; simp [fct]
  | a + 1, b + 1 => by
    have h1 := bc_fct a (b + 1)
    have h2 := bc_fct (a + 1) b
    have e1 : a + 1 + (b + 1) = (a + b + 1) + 1 := by omega
    have e2 : a + (b + 1) = a + b + 1 := by omega
    have e3 : a + 1 + b = a + b + 1 := by omega
    rw [e2] at h1
    rw [e3] at h2
    rw [e1, bc, Nat.add_mul]
    have q1 : bc (a + b + 1) a * (fct (a + 1) * fct (b + 1)) = (a + 1) * fct (a + b + 1) := by
      rw [← h1, show fct (a + 1) = (a + 1) * fct a from rfl, Nat.mul_assoc (a + 1), Nat.mul_left_comm]
    have q2 : bc (a + b + 1) (a + 1) * (fct (a + 1) * fct (b + 1)) = (b + 1) * fct (a + b + 1) := by
      rw [← h2, show fct (b + 1) = (b + 1) * fct b from rfl, Nat.mul_left_comm (fct (a + 1)), Nat.mul_left_comm]
    rw [q1, q2, show fct (a + b + 1 + 1) = (a + b + 1 + 1) * fct (a + b + 1) from rfl, ← Nat.add_mul]
    congr 1
/-- The product of the factorials. -/
def pf : List Nat → Nat
  | [] => 1
  | l :: r => fct l * pf r
theorem pf_pos : ∀ l : List Nat, 0 < pf l
  | [] => by decide
  | l :: r => Nat.mul_pos (fct_pos l) (pf_pos r)
theorem wy_pf : ∀ l : List Nat, wy l * pf l = fct (sm l)
  | [] => by decide
  | l :: r => by
    rw [wy, pf, sm, ← bc_fct, ← wy_pf r]
    rw [Nat.mul_assoc, Nat.mul_left_comm (wy r)]
theorem wy_rot (a b c d : Nat) : wy [d, a, b, c] = wy [a, b, c, d] := by
  have h1 := wy_pf [a, b, c, d]
  have h2 := wy_pf [d, a, b, c]
  have e : pf [d, a, b, c] = pf [a, b, c, d] := by
    simp only [pf, Nat.mul_one]
    rw [Nat.mul_left_comm, Nat.mul_left_comm (fct d), Nat.mul_comm (fct d)]
  have e2 : sm [d, a, b, c] = sm [a, b, c, d] := by simp only [sm]; omega
  rw [e, e2, ← h1] at h2
  exact Nat.eq_of_mul_eq_mul_right (pf_pos _) h2
/-- With one card more in the hand of a seat. -/
theorem wy_sum {a b c d : Nat} (h : 0 < sm [a, b, c, d]) :
    (if a = 0 then 0 else wy [a - 1, b, c, d]) + (if b = 0 then 0 else wy [a, b - 1, c, d]) + (if c = 0 then 0 else wy [a, b, c - 1, d]) + (if d = 0 then 0 else wy [a, b, c, d - 1]) = wy [a, b, c, d] := by
  rw [← sumW_eq h]
  simp only [sumW, wy, sm, Nat.mul_one, Nat.mul_zero, Nat.add_zero, Nat.mul_add]
  rw [Nat.add_assoc, Nat.add_assoc]
  congr 1
  congr 1
  · by_cases hb : b = 0
    · rw [if_pos hb, if_pos hb, Nat.mul_zero]
    · rw [if_neg hb, if_neg hb, show a + (b - 1 + (c + d)) = a + (b + (c + d)) - 1 by omega]
  · congr 1
    · by_cases hc : c = 0
      · rw [if_pos hc, if_pos hc, Nat.mul_zero, Nat.mul_zero]
      · rw [if_neg hc, if_neg hc, show a + (b + (c - 1 + d)) = a + (b + (c + d)) - 1 by omega, show b + (c - 1 + d) = b + (c + d) - 1 by omega]
    · by_cases hd : d = 0
      · rw [if_pos hd, if_pos hd, Nat.mul_zero, Nat.mul_zero, Nat.mul_zero]
      · rw [if_neg hd, if_neg hd, show a + (b + (c + (d - 1))) = a + (b + (c + d)) - 1 by omega, show b + (c + (d - 1)) = b + (c + d) - 1 by omega, show c + (d - 1) = c + d - 1 by omega, bc_self (d - 1)]
end Go.Deal

/- Chapter 6, plainly: a card that is left, put into a hand; deals turned; what is no partial deal. -/
namespace Go.Deal
theorem cnt_put {a c : Nat} (hc : c < 52) (h : a.testBit c = false) : cnt (a ||| 2 ^ c) 52 = cnt a 52 + 1 := by
  rw [cnt_or (fun i x y => ?_), cnt_one hc]
  rw [Nat.testBit_two_pow] at y
  have := of_decide_eq_true y
  subst this
  rw [h] at x; cases x
theorem put_lt {a c : Nat} (hc : c < 52) (h : a < 2 ^ 52) : a ||| 2 ^ c < 2 ^ 52 := or_lt h (Nat.pow_lt_pow_right (by decide) hc)
theorem dis_one {b c : Nat} (h : b.testBit c = false) : Dis (2 ^ c) b := fun i x y => by
  rw [Nat.testBit_two_pow] at x
  have := of_decide_eq_true x
  subst this
  rw [h] at y; cases y
theorem lf_bit {a b c d i : Nat} (h : (lf a b c d).testBit i = true) : i < 52 ∧ a.testBit i = false ∧ b.testBit i = false ∧ c.testBit i = false ∧ d.testBit i = false := by
  unfold lf at h
  rw [nd_bit, al_bit, un_bit] at h
  simp only [Bool.and_eq_true, decide_eq_true_eq, Bool.not_eq_true', Bool.or_eq_false_iff] at h
  exact ⟨h.1, h.2.1.1.1, h.2.1.1.2, h.2.1.2, h.2.2⟩
namespace PartD
variable {a b c d i : Nat}
theorem put0 (h : PartD a b c d) (hl : (lf a b c d).testBit i = true) (hr : cnt a 52 < 13) : PartD (a ||| 2 ^ i) b c d := by
  obtain ⟨h0, ha, hb, hc, hd⟩ := lf_bit hl
  have := cnt_put h0 ha
  exact ⟨put_lt h0 h.la, h.lb, h.lc, h.ld, by omega, h.cb, h.cc, h.cd, h.ab.or_l (dis_one hb), h.ac.or_l (dis_one hc), h.ad.or_l (dis_one hd), h.bc, h.bd, h.cd'⟩
theorem put1 (h : PartD a b c d) (hl : (lf a b c d).testBit i = true) (hr : cnt b 52 < 13) : PartD a (b ||| 2 ^ i) c d := by
  obtain ⟨h0, ha, hb, hc, hd⟩ := lf_bit hl
  have := cnt_put h0 hb
  exact ⟨h.la, put_lt h0 h.lb, h.lc, h.ld, h.ca, by omega, h.cc, h.cd, h.ab.or_r (dis_one ha).symm, h.ac, h.ad, h.bc.or_l (dis_one hc), h.bd.or_l (dis_one hd), h.cd'⟩
theorem put2 (h : PartD a b c d) (hl : (lf a b c d).testBit i = true) (hr : cnt c 52 < 13) : PartD a b (c ||| 2 ^ i) d := by
  obtain ⟨h0, ha, hb, hc, hd⟩ := lf_bit hl
  have := cnt_put h0 hc
  exact ⟨h.la, h.lb, put_lt h0 h.lc, h.ld, h.ca, h.cb, by omega, h.cd, h.ab, h.ac.or_r (dis_one ha).symm, h.ad, h.bc.or_r (dis_one hb).symm, h.bd, h.cd'.or_l (dis_one hd)⟩
theorem put3 (h : PartD a b c d) (hl : (lf a b c d).testBit i = true) (hr : cnt d 52 < 13) : PartD a b c (d ||| 2 ^ i) := by
  obtain ⟨h0, ha, hb, hc, hd⟩ := lf_bit hl
  have := cnt_put h0 hd
  exact ⟨h.la, h.lb, h.lc, put_lt h0 h.ld, h.ca, h.cb, h.cc, by omega, h.ab, h.ac, h.ad.or_r (dis_one ha).symm, h.bc, h.bd.or_r (dis_one hb).symm, h.cd'.or_r (dis_one hc).symm⟩
theorem rot (h : PartD a b c d) : PartD d a b c := ⟨h.ld, h.la, h.lb, h.lc, h.cd, h.ca, h.cb, h.cc, h.ad.symm, h.bd.symm, h.cd'.symm, h.ab, h.ac, h.bc⟩
theorem room (h : PartD a b c d) (hl : (lf a b c d).testBit i = true) : 0 < sm (lks a b c d) := by
  obtain ⟨h0, _, _, _, _⟩ := lf_bit hl
  rw [← h.lf_cnt]
  exact cnt_pos h0 hl
/-- Of a card that is left: all seats' completions together. -/
theorem seats (h : PartD a b c d) (hl : (lf a b c d).testBit i = true) :
    (if cnt a 52 < 13 then wy (lks (a ||| 2 ^ i) b c d) else 0) + (if cnt b 52 < 13 then wy (lks a (b ||| 2 ^ i) c d) else 0) + (if cnt c 52 < 13 then wy (lks a b (c ||| 2 ^ i) d) else 0) + (if cnt d 52 < 13 then wy (lks a b c (d ||| 2 ^ i)) else 0) = wy (lks a b c d) := by
  have hr := h.room hl
  obtain ⟨h0, ha, hb, hc, hd⟩ := lf_bit hl
  have e0 := cnt_put h0 ha; have e1 := cnt_put h0 hb; have e2 := cnt_put h0 hc; have e3 := cnt_put h0 hd
  have := h.ca; have := h.cb; have := h.cc; have := h.cd
  unfold lks at hr ⊢
  rw [← wy_sum hr]
  have key : ∀ {x : Nat} {y z : Nat}, cnt x 52 ≤ 13 → (cnt x 52 < 13 → y = z) → (if cnt x 52 < 13 then y else 0) = (if lk x = 0 then 0 else z) := fun {x y z} hx hyz => by
    unfold lk
    by_cases q : cnt x 52 < 13
    · rw [if_pos q, if_neg (by omega), hyz q]
    · rw [if_neg q, if_pos (by omega)]
  rw [key h.ca fun _ => by rw [show lk (a ||| 2 ^ i) = lk a - 1 by unfold lk; omega], key h.cb fun _ => by rw [show lk (b ||| 2 ^ i) = lk b - 1 by unfold lk; omega],
    key h.cc fun _ => by rw [show lk (c ||| 2 ^ i) = lk c - 1 by unfold lk; omega], key h.cd fun _ => by rw [show lk (d ||| 2 ^ i) = lk d - 1 by unfold lk; omega]]
end PartD
theorem not_full {a b c d i : Nat} (h : a.testBit i = false) (hi : i < 52) (hc : 13 ≤ cnt a 52) : ¬ PartD (a ||| 2 ^ i) b c d := fun p => by
  have := cnt_put hi h
  have := p.ca
  omega
theorem wy_lk (a b c d : Nat) : wy (lks a b c d) ≤ 2 ^ 117 := (wy_four (by unfold lk; omega) (by unfold lk; omega) (by unfold lk; omega) (by unfold lk; omega)).1
end Go.Deal
