/- Chapter 3: what Shuffle answers. -/
import Derived.Test.YtnbfnoomhlamnaaNext
import Derived.Test.YtnbfnoomhlamnaaPow
namespace Go.Proofs.Ytnbfnoomhlamnaa
open Go Go.Eng

def shufX (nn : Bool) : Tm := ⟨[some (.int .i64), o, o, o, o, o, o, some (.gs 1), o, o, o, o, o, o, o, o, o, o, o, o, o, o, o, o, o, o, o, o, o, o, o, o, o, o, o, o, o, o, o, o, o, o, o, o, o, o, o, o, o], (shufT nn).blks, []⟩
def jOf (s i : Int) : Int := belowV s (wr .i64 (i + 1))
theorem shuf_round (nn : Bool) (rd : Option Nat) (s i : Int) (xs ys : List Int) : roundT Try.prog (orc tab4 plainL) noLoops 100 1 rd 18 shufLp (shufT nn) (shufX nn) [.i s, .i i, .l xs, .l ys] =
    bif decide (0 < i) then
      bif decide (0 ≤ jOf s i ∧ jOf s i < Int.ofNat ys.length) then
        match ys[(jOf s i).toNat]? with
        | some x => bif decide (0 ≤ i ∧ i < Int.ofNat ys.length) then
            match ys[i.toNat]? with
            | some y => bif decide (0 ≤ i ∧ i < Int.ofNat ys.length) then bif decide (i.toNat < ys.length) then
                bif decide (0 ≤ jOf s i ∧ jOf s i < Int.ofNat (ys.set i.toNat x).length) then bif decide ((jOf s i).toNat < (ys.set i.toNat x).length) then
                  some (.normal, [.i (belowS s (wr .i64 (i + 1))), .i (wr .i64 (i - 1)), .l xs, .l ((ys.set i.toNat x).set (jOf s i).toNat y)], [])
                else none else none else none else none
            | none => none
          else none
        | none => none
      else none
    else some (.exit 0, [.i s, .l xs, .l ys], []) := by cases nn <;> kernel_rfl

/-- The state behind a draw is right, and the value is less than the bound. -/
theorem step_right {s : Int} (h : rightB s = true) : rightB (mulP s 48271) = true := by
  rw [right_iff] at h
  obtain ⟨t, ht⟩ : ∃ t : Nat, s = t := ⟨s.toNat, by omega⟩
  subst ht
  have := J_right (s := t) (by omega) (by omega) 1
  have e := mulP_nat (a := t) (b := 48271) (by omega) (by omega)
  rw [show ((48271 : Nat) : Int) = 48271 from rfl] at e
  rw [e]
  simpa [J] using this
theorem belowR_right : ∀ (n : Nat) (s m : Int), rightB s = true → ∃ t, rightB t = true ∧ belowR n (wr .i64 (s - 1)) s m = (t - 1, t)
  | 0, s, m, h => ⟨s, h, by have := right_iff.1 h; simp only [belowR]; rw [wr64 (by omega) (by omega)]⟩
  | n + 1, s, m, h => by
    have hs := right_iff.1 h
    cases hv : decide (wr .i64 (s - 1) < m) with
    | true => exact ⟨s, h, by simp only [belowR, hv, cond_true]; rw [wr64 (by omega) (by omega)]⟩
    | false =>
      obtain ⟨t, h1, h2⟩ := belowR_right n (mulP s 48271) m (step_right h)
      exact ⟨t, h1, by simp only [belowR, hv, cond_false]; exact h2⟩
theorem below_right {s n : Int} (h : rightB s = true) (h1 : 1 ≤ n) (h2 : n ≤ 2147483646) : rightB (belowS s n) = true ∧ 0 ≤ belowV s n ∧ belowV s n < n := by
  have hb : belowB s n = false := by unfold belowB; rw [h]; simp; omega
  obtain ⟨t, q1, q2⟩ := belowR_right 100 (mulP s 48271) (mostI n) (step_right h)
  have ht := right_iff.1 q1
  unfold belowS belowV
  rw [hb, cond_false, cond_false, show drawn s n = (t - 1, t) from q2]
  refine ⟨q1, Int.tmod_nonneg n (by show 0 ≤ t - 1; omega), Int.tmod_lt_of_pos _ (by omega)⟩

def swapL (ys : List Int) (i j : Nat) : List Int := (ys.set i (ys.getD j 0)).set j (ys.getD i 0)
def shufR : Nat → Int → List Int → Int × List Int
  | 0, s, ys => (s, ys)
  | n + 1, s, ys => shufR n (belowS s (n + 2 : Nat)) (swapL ys (n + 1) (belowV s (n + 2 : Nat)).toNat)

theorem shuf_loop (nn : Bool) (rd : Option Nat) (xs : List Int) : ∀ x : Int × Int × List Int, (rightB x.2.1 = true ∧ -1 ≤ x.1 ∧ x.1 < (x.2.2.length : Int) ∧ x.2.2.length ≤ 10000) →
    SimC Try.prog 1 rd (.loop shufLp) ((shufT nn).at [.i x.2.1, .i x.1, .l xs, .l x.2.2]) (.exit 0) ((shufX nn).at [.i (shufR x.1.toNat x.2.1 x.2.2).1, .l xs, .l (shufR x.1.toNat x.2.1 x.2.2).2]) := by
  refine loop_of_rounds (C := orc tab4 plainL) (L := noLoops) (N := 100) (me := 18) (T := shufT nn) (T' := shufX nn) (inl_ok (oracleOf_ok emptyTab_ok) ftab_ok tab4_ok plainL_ok mixed 20) mixed (noLoops_ok) (by cases nn <;> kernel_rfl) (by cases nn <;> kernel_rfl) (X := Int × Int × List Int)
    (fun x => [.i x.2.1, .i x.1, .l xs, .l x.2.2]) (fun x => rightB x.2.1 = true ∧ -1 ≤ x.1 ∧ x.1 < (x.2.2.length : Int) ∧ x.2.2.length ≤ 10000) (fun x => x.1.toNat) (fun x => (.exit 0, [.i (shufR x.1.toNat x.2.1 x.2.2).1, .l xs, .l (shufR x.1.toNat x.2.1 x.2.2).2])) ?_
  rintro ⟨i, s, ys⟩ ⟨hs, hi0, hi, hl⟩
  dsimp only at hs hi0 hi hl ⊢
  have h := shuf_round nn rd s i xs ys
  cases hp : decide (0 < i) with
  | false =>
    rw [hp, cond_false] at h
    simp only [decide_eq_false_iff_not] at hp
    refine ⟨_, _, _, h, codes0, .inr ⟨by simp, ?_⟩⟩
    rw [show i.toNat = 0 by omega]
    rfl
  | true =>
    rw [hp, cond_true] at h
    simp only [decide_eq_true_eq] at hp
    obtain ⟨n, hn⟩ : ∃ n : Nat, i = (n + 1 : Nat) := ⟨i.toNat - 1, by omega⟩
    subst hn
    have e1 : wr .i64 (((n + 1 : Nat) : Int) + 1) = ((n + 2 : Nat) : Int) := by rw [wr64 (by omega) (by omega)]; omega
    have e2 : wr .i64 (((n + 1 : Nat) : Int) - 1) = (n : Int) := by rw [wr64 (by omega) (by omega)]; omega
    have hj : jOf s ((n + 1 : Nat) : Int) = belowV s ((n + 2 : Nat) : Int) := by unfold jOf; rw [e1]
    obtain ⟨b1, b2, b3⟩ := below_right (n := ((n + 2 : Nat) : Int)) hs (by omega) (by omega)
    rw [hj, e1, e2] at h
    generalize hjv : belowV s ((n + 2 : Nat) : Int) = j at *
    obtain ⟨k, hk⟩ : ∃ k : Nat, j = k := ⟨j.toNat, by omega⟩
    subst hk
    have hk1 : k < ys.length := by omega
    have hn1 : n + 1 < ys.length := by omega
    have d1 : decide (0 ≤ (k : Int) ∧ (k : Int) < Int.ofNat ys.length) = true := decide_eq_true ⟨by omega, by show (k : Int) < (ys.length : Int); omega⟩
    have d2 : decide (0 ≤ ((n + 1 : Nat) : Int) ∧ ((n + 1 : Nat) : Int) < Int.ofNat ys.length) = true := decide_eq_true ⟨by omega, by show ((n + 1 : Nat) : Int) < (ys.length : Int); omega⟩
    have t1 : ((k : Int)).toNat = k := by omega
    have t2 : (((n + 1 : Nat) : Int)).toNat = n + 1 := by omega
    rw [d1, cond_true, t1, List.getElem?_eq_getElem hk1] at h
    simp only [d2, cond_true, t2, List.getElem?_eq_getElem hn1] at h
    have d3 : decide (n + 1 < ys.length) = true := decide_eq_true hn1
    have d4 : decide (0 ≤ (k : Int) ∧ (k : Int) < Int.ofNat (ys.set (n + 1) ys[k]).length) = true := decide_eq_true ⟨by omega, by rw [List.length_set]; show (k : Int) < (ys.length : Int); omega⟩
    have d5 : decide (k < (ys.set (n + 1) ys[k]).length) = true := decide_eq_true (by rw [List.length_set]; exact hk1)
    rw [d3, d4, d5] at h
    simp only [cond_true] at h
    refine ⟨_, _, _, h, codes0, .inl ⟨rfl, ((n : Int), belowS s ((n + 2 : Nat) : Int), (ys.set (n + 1) ys[k]).set k ys[n + 1]), rfl, ⟨b1, by dsimp only; omega, by dsimp only; rw [List.length_set, List.length_set]; omega, by dsimp only; rw [List.length_set, List.length_set]; exact hl⟩, by dsimp only; omega, ?_⟩⟩
    dsimp only
    rw [show ((n : Int)).toNat = n by omega, t2]
    simp only [shufR, hjv, t1, swapL]
    rw [List.getD_eq_getElem?_getD, List.getD_eq_getElem?_getD, List.getElem?_eq_getElem hk1, List.getElem?_eq_getElem hn1]
    rfl
end Go.Proofs.Ytnbfnoomhlamnaa
