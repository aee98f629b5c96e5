/- Texts merged: Pow, Shuf. -/
import Derived.Test.YtnbfnoomhlamnaaGreatNext
/- Chapter 3: the powers of the factor modulo the prime. -/
namespace Go.Proofs.YtnbfnoomhlamnaaGreat
open Go Go.Eng

theorem mulP_nat {a b : Nat} (ha : a < 2147483647) (hb : b < 2147483647) : mulP a b = ((a * b % 2147483647 : Nat) : Int) := by
  have h : a * b ≤ 2147483646 * 2147483646 := Nat.mul_le_mul (by omega) (by omega)
  have e : (a : Int) * (b : Int) = ((a * b : Nat) : Int) := by simp
  unfold mulP
  rw [e, wr64 (by omega) (by omega), Int.tmod_eq_emod_of_nonneg (by omega)]
  omega
def J (s e : Nat) : Nat := s * 48271 ^ e % 2147483647
theorem pow_sq (p k : Nat) : (p * p) ^ k = p ^ (2 * k) := by rw [Nat.pow_mul, Nat.pow_two]
theorem sq_mod (a p k : Nat) : a * (p * p % 2147483647) ^ k % 2147483647 = a * p ^ (2 * k) % 2147483647 := by
  rw [Nat.mul_mod, ← Nat.pow_mod, ← Nat.mul_mod, pow_sq]
theorem jumpR_nat : ∀ (l p a : Nat), p < 2147483647 → a < 2147483647 → jumpR p l a = ((a * p ^ l % 2147483647 : Nat) : Int) := by
  intro l
  induction l using Nat.strongRecOn with
  | _ l ih =>
    intro p a hp ha
    rw [jumpR]
    rcases Nat.eq_zero_or_pos l with h0 | h0
    · subst h0
      rw [dif_neg (by omega), Nat.pow_zero, Nat.mul_one, Nat.mod_eq_of_lt ha]
    · rw [dif_pos (by omega), mulP_nat hp hp]
      have e2 : ((l : Int) / 2) = ((l / 2 : Nat) : Int) := by omega
      have hpp : p * p % 2147483647 < 2147483647 := Nat.mod_lt _ (by omega)
      rw [e2]
      cases ho : decide ((l : Int).tmod 2 = 1) with
      | true =>
        simp only [decide_eq_true_eq] at ho
        rw [Int.tmod_eq_emod_of_nonneg (by omega)] at ho
        rw [cond_true, mulP_nat ha hp, ih (l / 2) (by omega) _ _ hpp (Nat.mod_lt _ (by omega)), sq_mod]
        rw [Nat.mod_mul_mod]
        congr 2
        have e3 : l = 2 * (l / 2) + 1 := by omega
        rw [Nat.mul_assoc]
        conv => rhs; rw [e3, Nat.pow_succ, Nat.mul_comm (p ^ (2 * (l / 2))) p]
      | false =>
        simp only [decide_eq_false_iff_not] at ho
        rw [Int.tmod_eq_emod_of_nonneg (by omega)] at ho
        rw [cond_false, ih (l / 2) (by omega) _ _ hpp ha, sq_mod]
        have e3 : 2 * (l / 2) = l := by omega
        rw [e3]
def pm : Nat → Nat → Nat → Nat → Nat
  | 0, _, _, a => a
  | f + 1, p, l, a => pm f (p * p % 2147483647) (l / 2) (bif Nat.beq (l % 2) 1 then a * p % 2147483647 else a)
theorem pm_eq : ∀ (f p l a : Nat), l < 2 ^ f → pm f p l a % 2147483647 = a * p ^ l % 2147483647
  | 0, p, l, a, h => by
    have : l = 0 := by omega
    subst this
    simp [pm]
  | f + 1, p, l, a, h => by
    have h2 : l / 2 < 2 ^ f := by rw [Nat.pow_succ] at h; omega
    rw [pm, pm_eq f _ _ _ h2, sq_mod]
    cases ho : Nat.beq (l % 2) 1 with
    | true =>
      have ho := Nat.eq_of_beq_eq_true ho
      rw [cond_true, Nat.mod_mul_mod]
      congr 1
      have e3 : l = 2 * (l / 2) + 1 := by omega
      rw [Nat.mul_assoc]
      conv => rhs; rw [e3, Nat.pow_succ, Nat.mul_comm (p ^ (2 * (l / 2))) p]
    | false =>
      have ho : l % 2 ≠ 1 := fun e => by rw [e] at ho; cases ho
      rw [cond_false]
      have e3 : 2 * (l / 2) = l := by omega
      rw [e3]
theorem order {v : Nat} (hv : v = 2147483646) : 48271 ^ v % 2147483647 = 1 := by
  have h := pm_eq 31 48271 v 1 (by rw [hv]; decide)
  rw [Nat.one_mul] at h
  rw [← h, hv]
  decide +kernel
theorem pow_cycle (n : Nat) : 48271 ^ n % 2147483647 = 48271 ^ (n % 2147483646) % 2147483647 := by
  obtain ⟨v, hv⟩ : ∃ v, v = 2147483646 := ⟨_, rfl⟩
  rw [← hv]
  have e : n = v * (n / v) + n % v := (Nat.div_add_mod n v).symm
  conv => lhs; rw [e, Nat.pow_add, Nat.pow_mul, Nat.mul_mod, Nat.pow_mod, order hv, Nat.one_pow]
  rw [Nat.mod_eq_of_lt (show 1 < 2147483647 by omega), Nat.one_mul, Nat.mod_mod]
theorem J_lt (s e : Nat) : J s e < 2147483647 := Nat.mod_lt _ (by omega)
theorem J_J (s a b : Nat) : J (J s a) b = J s (a + b) := by
  unfold J
  rw [Nat.mod_mul_mod, Nat.mul_assoc, ← Nat.pow_add]
theorem J_cycle (s e : Nat) : J s e = J s (e % 2147483646) := by
  unfold J
  rw [Nat.mul_mod, pow_cycle, ← Nat.mul_mod]
theorem J_zero {s : Nat} (h : s < 2147483647) : J s 0 = s := by simp [J, Nat.mod_eq_of_lt h]
theorem J_pos {s : Nat} (h : 1 ≤ s) (h' : s < 2147483647) (e : Nat) : 1 ≤ J s e := by
  rcases Nat.eq_zero_or_pos (J s e) with h0 | h0
  · have h1 : J (J s e) (2147483646 - e % 2147483646) = s := by
      rw [J_cycle s e, J_J, J_cycle]
      have : (e % 2147483646 + (2147483646 - e % 2147483646)) % 2147483646 = 0 := by omega
      rw [this, J_zero h']
    rw [h0] at h1
    simp [J] at h1
    omega
  · exact h0

theorem rest_eq (k : Int) : restI k = k % 2147483646 := by
  have h1 := Int.tmod_add_mul_tdiv k 2147483646
  have h2 := Int.tmod_lt_of_pos k (show (0 : Int) < 2147483646 by omega)
  have h3 : -2147483646 < k.tmod 2147483646 := by
    rcases Int.le_total 0 k with h | h
    · have := Int.tmod_nonneg 2147483646 h; omega
    · have h4 := Int.tmod_lt_of_pos (-k) (show (0 : Int) < 2147483646 by omega)
      rw [Int.neg_tmod] at h4
      omega
  unfold restI
  generalize k.tmod 2147483646 = t at *
  generalize k.tdiv 2147483646 = q at *
  cases h : decide (t < 0) with
  | true =>
    simp only [decide_eq_true_eq] at h
    rw [cond_true, wr64 (by omega) (by omega)]
    omega
  | false =>
    simp only [decide_eq_false_iff_not] at h
    rw [cond_false]
    omega
theorem right_iff {s : Int} : rightB s = true ↔ 1 ≤ s ∧ s ≤ 2147483646 := by simp [rightB]
theorem jumpI_nat {s : Nat} (h : 1 ≤ s) (h' : s < 2147483647) (k : Int) : jumpI s k = ((J s (k % 2147483646).toNat : Nat) : Int) := by
  have hr : rightB (s : Int) = true := right_iff.2 ⟨by omega, by omega⟩
  unfold jumpI
  rw [hr, cond_true, rest_eq]
  have e : k % 2147483646 = (((k % 2147483646).toNat : Nat) : Int) := by omega
  conv => lhs; rw [e]
  exact jumpR_nat _ 48271 s (by omega) h'
theorem J_right {s : Nat} (h : 1 ≤ s) (h' : s < 2147483647) (e : Nat) : rightB ((J s e : Nat) : Int) = true := by
  have h1 := J_pos h h' e
  have h2 := J_lt s e
  exact right_iff.2 ⟨by omega, by omega⟩
/-- Jumps add up. -/
theorem jump_add {s : Nat} (h : 1 ≤ s) (h' : s < 2147483647) (x y z : Int) (hz : (x + y) % 2147483646 = z % 2147483646) : jumpI (jumpI s x) y = jumpI s z := by
  rw [jumpI_nat h h', jumpI_nat (J_pos h h' _) (J_lt _ _), jumpI_nat h h', J_J, J_cycle]
  congr 2
  omega
theorem jump_none {s : Nat} (h : 1 ≤ s) (h' : s < 2147483647) {z : Int} (hz : z % 2147483646 = 0) : jumpI s z = s := by
  rw [jumpI_nat h h', hz]
  simp [J_zero h']
theorem next_jump {s : Nat} (h : 1 ≤ s) (h' : s < 2147483647) : nextS s = jumpI s 1 := by
  have hr : rightB (s : Int) = true := right_iff.2 ⟨by omega, by omega⟩
  rw [jumpI_nat h h']
  unfold nextS
  rw [hr, cond_true]
  have := mulP_nat h' (show 48271 < 2147483647 by omega)
  rw [show ((48271 : Nat) : Int) = 48271 from rfl] at this
  rw [this]
  simp [J]
theorem next_value {s : Nat} (h : 1 ≤ s) (h' : s < 2147483647) : nextV s = nextS s - 1 := by
  have h0 := next_jump h h'
  have hr : rightB (s : Int) = true := right_iff.2 ⟨by omega, by omega⟩
  have hj := jumpI_nat h h' 1
  have h1 := J_pos h h' (1 % 2147483646 : Int).toNat
  have h2 := J_lt s (1 % 2147483646 : Int).toNat
  unfold nextS at h0 ⊢
  unfold nextV
  rw [hr, cond_true] at h0 ⊢
  rw [cond_true, h0, hj, wr64 (by omega) (by omega)]
end Go.Proofs.YtnbfnoomhlamnaaGreat

/- Chapter 3: what Shuffle answers. -/
namespace Go.Proofs.YtnbfnoomhlamnaaGreat
open Go Go.Eng

def shufX (nn : Bool) : Tm := ⟨[some (.int .i64), o, o, o, o, o, o, some (.gs 1), o, o, o, o, o, o, o, o, o, o, o, o, o, o, o, o, o, o, o, o, o, o, o, o, o, o, o, o, o, o, o, o, o, o, o, o, o, o, o, o, o], (shufT nn).blks, []⟩
def jOf (s i : Int) : Int := belowV s (wr .i64 (i + 1))
theorem shuf_round (nn : Bool) (rd : Option Nat) (s i : Int) (xs ys : List Int) : roundT Tryz.prog (orc tab4 plainL) noLoops 100 1 rd 11 shufLp (shufT nn) (shufX nn) [.i s, .i i, .l xs, .l ys] =
    bif decide (0 < i) then
      bif decide (0 ≤ jOf s i ∧ jOf s i < Int.ofNat ys.length) then
        match ys[(jOf s i).toNat]? with
        | some x => bif decide (0 ≤ i ∧ i < Int.ofNat ys.length) then
            match ys[i.toNat]? with
            | some y => bif decide (0 ≤ i ∧ i < Int.ofNat ys.length) then bif decide (i.toNat < ys.length) then
                bif decide (0 ≤ jOf s i ∧ jOf s i < Int.ofNat (ys.set i.toNat x).length) then bif decide ((jOf s i).toNat < (ys.set i.toNat x).length) then
                  some (.normal, [.i (belowS s (wr .i64 (i + 1))), .i (wr .i64 (i - 1)), .l xs, .l ((ys.set i.toNat x).set (jOf s i).toNat y)], [])
                else none else none else none else none
            | none => none
          else none
        | none => none
      else none
    else some (.exit 0, [.i s, .l xs, .l ys], []) := by cases nn <;> kernel_rfl

/-- The state behind a draw is right, and the value is less than the bound. -/
theorem step_right {s : Int} (h : rightB s = true) : rightB (mulP s 48271) = true := by
  rw [right_iff] at h
  obtain ⟨t, ht⟩ : ∃ t : Nat, s = t := ⟨s.toNat, by omega⟩
  subst ht
  have := J_right (s := t) (by omega) (by omega) 1
  have e := mulP_nat (a := t) (b := 48271) (by omega) (by omega)
  rw [show ((48271 : Nat) : Int) = 48271 from rfl] at e
  rw [e]
  simpa [J] using this
theorem belowR_right : ∀ (n : Nat) (s m : Int), rightB s = true → ∃ t, rightB t = true ∧ belowR n (wr .i64 (s - 1)) s m = (t - 1, t)
  | 0, s, m, h => ⟨s, h, by have := right_iff.1 h; simp only [belowR]; rw [wr64 (by omega) (by omega)]⟩
  | n + 1, s, m, h => by
    have hs := right_iff.1 h
    cases hv : decide (wr .i64 (s - 1) < m) with
    | true => exact ⟨s, h, by simp only [belowR, hv, cond_true]; rw [wr64 (by omega) (by omega)]⟩
    | false =>
      obtain ⟨t, h1, h2⟩ := belowR_right n (mulP s 48271) m (step_right h)
      exact ⟨t, h1, by simp only [belowR, hv, cond_false]; exact h2⟩
theorem below_right {s n : Int} (h : rightB s = true) (h1 : 1 ≤ n) (h2 : n ≤ 2147483646) : rightB (belowS s n) = true ∧ 0 ≤ belowV s n ∧ belowV s n < n := by
  have hb : belowB s n = false := by unfold belowB; rw [h]; simp; omega
  obtain ⟨t, q1, q2⟩ := belowR_right 100 (mulP s 48271) (mostI n) (step_right h)
  have ht := right_iff.1 q1
  unfold belowS belowV
  rw [hb, cond_false, cond_false, show drawn s n = (t - 1, t) from q2]
  refine ⟨q1, Int.tmod_nonneg n (by show 0 ≤ t - 1; omega), Int.tmod_lt_of_pos _ (by omega)⟩

def swapL (ys : List Int) (i j : Nat) : List Int := (ys.set i (ys.getD j 0)).set j (ys.getD i 0)
def shufR : Nat → Int → List Int → Int × List Int
  | 0, s, ys => (s, ys)
  | n + 1, s, ys => shufR n (belowS s (n + 2 : Nat)) (swapL ys (n + 1) (belowV s (n + 2 : Nat)).toNat)

theorem shuf_loop (nn : Bool) (rd : Option Nat) (xs : List Int) : ∀ x : Int × Int × List Int, (rightB x.2.1 = true ∧ -1 ≤ x.1 ∧ x.1 < (x.2.2.length : Int) ∧ x.2.2.length ≤ 10000) →
    SimC Tryz.prog 1 rd (.loop shufLp) ((shufT nn).at [.i x.2.1, .i x.1, .l xs, .l x.2.2]) (.exit 0) ((shufX nn).at [.i (shufR x.1.toNat x.2.1 x.2.2).1, .l xs, .l (shufR x.1.toNat x.2.1 x.2.2).2]) := by
  refine loop_of_rounds (C := orc tab4 plainL) (L := noLoops) (N := 100) (me := 11) (T := shufT nn) (T' := shufX nn) (inl_ok (oracleOf_ok emptyTab_ok) ftab_ok tab4_ok plainL_ok mixed 20) mixed (noLoops_ok) (by cases nn <;> kernel_rfl) (by cases nn <;> kernel_rfl) (X := Int × Int × List Int)
    (fun x => [.i x.2.1, .i x.1, .l xs, .l x.2.2]) (fun x => rightB x.2.1 = true ∧ -1 ≤ x.1 ∧ x.1 < (x.2.2.length : Int) ∧ x.2.2.length ≤ 10000) (fun x => x.1.toNat) (fun x => (.exit 0, [.i (shufR x.1.toNat x.2.1 x.2.2).1, .l xs, .l (shufR x.1.toNat x.2.1 x.2.2).2])) ?_
  rintro ⟨i, s, ys⟩ ⟨hs, hi0, hi, hl⟩
  dsimp only at hs hi0 hi hl ⊢
  have h := shuf_round nn rd s i xs ys
  cases hp : decide (0 < i) with
  | false =>
    rw [hp, cond_false] at h
    simp only [decide_eq_false_iff_not] at hp
    refine ⟨_, _, _, h, codes0, .inr ⟨by simp, ?_⟩⟩
    rw [show i.toNat = 0 by omega]
    rfl
  | true =>
    rw [hp, cond_true] at h
    simp only [decide_eq_true_eq] at hp
    obtain ⟨n, hn⟩ : ∃ n : Nat, i = (n + 1 : Nat) := ⟨i.toNat - 1, by omega⟩
    subst hn
    have e1 : wr .i64 (((n + 1 : Nat) : Int) + 1) = ((n + 2 : Nat) : Int) := by rw [wr64 (by omega) (by omega)]; omega
    have e2 : wr .i64 (((n + 1 : Nat) : Int) - 1) = (n : Int) := by rw [wr64 (by omega) (by omega)]; omega
    have hj : jOf s ((n + 1 : Nat) : Int) = belowV s ((n + 2 : Nat) : Int) := by unfold jOf; rw [e1]
    obtain ⟨b1, b2, b3⟩ := below_right (n := ((n + 2 : Nat) : Int)) hs (by omega) (by omega)
    rw [hj, e1, e2] at h
    generalize hjv : belowV s ((n + 2 : Nat) : Int) = j at *
    obtain ⟨k, hk⟩ : ∃ k : Nat, j = k := ⟨j.toNat, by omega⟩
    subst hk
    have hk1 : k < ys.length := by omega
    have hn1 : n + 1 < ys.length := by omega
    have d1 : decide (0 ≤ (k : Int) ∧ (k : Int) < Int.ofNat ys.length) = true := decide_eq_true ⟨by omega, by show (k : Int) < (ys.length : Int); omega⟩
    have d2 : decide (0 ≤ ((n + 1 : Nat) : Int) ∧ ((n + 1 : Nat) : Int) < Int.ofNat ys.length) = true := decide_eq_true ⟨by omega, by show ((n + 1 : Nat) : Int) < (ys.length : Int); omega⟩
    have t1 : ((k : Int)).toNat = k := by omega
    have t2 : (((n + 1 : Nat) : Int)).toNat = n + 1 := by omega
    rw [d1, cond_true, t1, List.getElem?_eq_getElem hk1] at h
    simp only [d2, cond_true, t2, List.getElem?_eq_getElem hn1] at h
    have d3 : decide (n + 1 < ys.length) = true := decide_eq_true hn1
    have d4 : decide (0 ≤ (k : Int) ∧ (k : Int) < Int.ofNat (ys.set (n + 1) ys[k]).length) = true := decide_eq_true ⟨by omega, by rw [List.length_set]; show (k : Int) < (ys.length : Int); omega⟩
    have d5 : decide (k < (ys.set (n + 1) ys[k]).length) = true := decide_eq_true (by rw [List.length_set]; exact hk1)
    rw [d3, d4, d5] at h
    simp only [cond_true] at h
    refine ⟨_, _, _, h, codes0, .inl ⟨rfl, ((n : Int), belowS s ((n + 2 : Nat) : Int), (ys.set (n + 1) ys[k]).set k ys[n + 1]), rfl, ⟨b1, by dsimp only; omega, by dsimp only; rw [List.length_set, List.length_set]; omega, by dsimp only; rw [List.length_set, List.length_set]; exact hl⟩, by dsimp only; omega, ?_⟩⟩
    dsimp only
    rw [show ((n : Int)).toNat = n by omega, t2]
    simp only [shufR, hjv, t1, swapL]
    rw [List.getD_eq_getElem?_getD, List.getD_eq_getElem?_getD, List.getElem?_eq_getElem hk1, List.getElem?_eq_getElem hn1]
    rfl
end Go.Proofs.YtnbfnoomhlamnaaGreat
