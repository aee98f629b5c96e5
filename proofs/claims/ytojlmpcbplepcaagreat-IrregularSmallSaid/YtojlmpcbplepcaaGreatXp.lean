/- Chapter 10: the reference's words for 'over' and 'free', plainly: on good calls they say what the program says. -/
import Derived.Test.YtojlmpcbplepcaaGreatRc
namespace Go.Proofs.YtojlmpcbplepcaaGreat
open Go Go.Eng
def actN (xs : List Int) : Nat → Int
  | 0 => -1
  | n + 1 => bif decide (xs.getD n 0 = 0) then actN xs n else (n : Int)
def actV (xs : List Int) : Int := actN xs xs.length
theorem actN_spec (xs : List Int) : ∀ n, (actN xs n = -1 ∧ ∀ j, j < n → xs.getD j 0 = 0) ∨ ∃ k : Nat, k < n ∧ actN xs n = (k : Int) ∧ xs.getD k 0 ≠ 0 ∧ ∀ j, k < j → j < n → xs.getD j 0 = 0
  | 0 => .inl ⟨rfl, fun j h => by omega⟩
  | n + 1 => by
    unfold actN
    by_cases hz : xs.getD n 0 = 0
    · rw [decide_eq_true hz, cond_true]
      rcases actN_spec xs n with ⟨h1, h2⟩ | ⟨k, h1, h2, h3, h4⟩
      · refine .inl ⟨h1, fun j hj => ?_⟩
        by_cases e : j = n
        · rw [e]; exact hz
        · exact h2 j (by omega)
      · refine .inr ⟨k, by omega, h2, h3, fun j h5 h6 => ?_⟩
        by_cases e : j = n
        · rw [e]; exact hz
        · exact h4 j h5 (by omega)
    · rw [decide_eq_false hz, cond_false]
      exact .inr ⟨n, by omega, rfl, hz, fun j h1 h2 => by omega⟩
theorem rkF_spec : ∀ (t : List Int) (k : Nat) (r R : Int), rkF k r t = some R → (R = r ∧ ∀ j, j < t.length → t.getD j 0 = 0) ∨ ∃ j, j < t.length ∧ r < R ∧ t.getD j 0 = R ∧ (∀ i, j < i → i < t.length → t.getD i 0 = 0) ∧ decide ((k + j) % 2 = 1) = decide (R = 2)
  | [], k, r, R, h => by cases h; exact .inl ⟨rfl, fun j hj => by simp at hj⟩
  | x :: t, k, r, R, h => by
    simp only [rkF] at h
    by_cases hx : x = 0
    · rw [if_pos hx] at h
      rcases rkF_spec t (k + 1) r R h with ⟨h1, h2⟩ | ⟨j, h1, h2, h3, h4, h5⟩
      · refine .inl ⟨h1, fun j hj => ?_⟩
        cases j with
        | zero => exact hx
        | succ j => simp only [List.length_cons] at hj; rw [List.getD_cons_succ]; exact h2 j (by omega)
      · refine .inr ⟨j + 1, by simp only [List.length_cons]; omega, h2, by rw [List.getD_cons_succ]; exact h3, fun i h6 h7 => ?_, by rw [← h5, show k + (j + 1) = k + 1 + j by omega]⟩
        cases i with
        | zero => omega
        | succ i => simp only [List.length_cons] at h7; rw [List.getD_cons_succ]; exact h4 i (by omega) (by omega)
    · rw [if_neg hx] at h
      by_cases hc : x = r + 1 ∧ decide (k % 2 = 1) = decide (r = 1)
      · rw [if_pos hc] at h
        rcases rkF_spec t (k + 1) (r + 1) R h with ⟨h1, h2⟩ | ⟨j, h1, h2, h3, h4, h5⟩
        · refine .inr ⟨0, by simp, by omega, by rw [h1]; exact hc.1, fun i h6 h7 => ?_, ?_⟩
          · cases i with
            | zero => omega
            | succ i => simp only [List.length_cons] at h7; rw [List.getD_cons_succ]; exact h2 i (by omega)
          · rw [Nat.add_zero, hc.2]; congr 1; simp only [eq_iff_iff]; omega
        · refine .inr ⟨j + 1, by simp only [List.length_cons]; omega, by omega, by rw [List.getD_cons_succ]; exact h3, fun i h6 h7 => ?_, by rw [← h5, show k + (j + 1) = k + 1 + j by omega]⟩
          cases i with
          | zero => omega
          | succ i => simp only [List.length_cons] at h7; rw [List.getD_cons_succ]; exact h4 i (by omega) (by omega)
      · rw [if_neg hc] at h; cases h
theorem drop_getD (l : List Int) (a j : Nat) : (l.drop a).getD j 0 = l.getD (a + j) 0 := by
  rw [List.getD_eq_getElem?_getD, List.getD_eq_getElem?_getD, List.getElem?_drop]
theorem act_is {d : Int} {l : List Int} {s : St} (hh : Hist d l s) (hr : 0 ≤ s.risk ∧ s.risk ≤ 2) (hm : s.b.m = true) : ∃ a k : Nat, a < l.length ∧ k < l.length ∧ s.b.s = (d + (a : Int)) % 4 ∧ l.getD a 0 = s.b.c ∧ isBid s.b.c = true ∧ (∀ j, a < j → j < l.length → isBid (l.getD j 0) = false) ∧ actV l = (k : Int) ∧
    ((s.risk = 0 ∧ k = a) ∨ (1 ≤ s.risk ∧ a < k ∧ l.getD k 0 = s.risk ∧ decide ((k - (a + 1)) % 2 = 1) = decide (s.risk = 2))) := by
  obtain ⟨a, a1, a2, a3, a4, a5, a6⟩ := hh.bid hm
  have hb3 : 3 ≤ l.getD a 0 := by rw [a2]; simp only [isBid, Bool.and_eq_true, decide_eq_true_eq] at a3; omega
  rcases actN_spec l l.length with ⟨_, h2⟩ | ⟨k, k1, k2, k3, k4⟩
  · have := h2 a a1; omega
  · refine ⟨a, k, a1, k1, a4, a2, a3, a5, k2, ?_⟩
    have hka : a ≤ k := by
      rcases Nat.lt_or_ge k a with h | h
      · have := k4 a h a1; omega
      · exact h
    have hdl : (l.drop (a + 1)).length = l.length - (a + 1) := List.length_drop
    rcases rkF_spec _ _ _ _ a6 with ⟨r1, r2⟩ | ⟨j, j1, j2, j3, j4, j5⟩
    · refine .inl ⟨r1, ?_⟩
      rcases Nat.eq_or_lt_of_le hka with h | h
      · exact h.symm
      · have := r2 (k - (a + 1)) (by omega)
        rw [drop_getD, show a + 1 + (k - (a + 1)) = k by omega] at this
        exact absurd this k3
    · rw [drop_getD] at j3
      have hk : k = a + 1 + j := by
        rcases Nat.lt_trichotomy k (a + 1 + j) with h | h | h
        · have := k4 (a + 1 + j) h (by omega); omega
        · exact h
        · have := j4 (k - (a + 1)) (by omega) (by omega)
          rw [drop_getD, show a + 1 + (k - (a + 1)) = k by omega] at this
          exact absurd this k3
      refine .inr ⟨by omega, by omega, by rw [hk]; exact j3, ?_⟩
      rw [← j5, show k - (a + 1) = 0 + j by omega]
def tzE (xs : List Int) : Bool := decide (tz xs = 4) || (decide (tz xs = 3) && hasB xs)
def frW (xs : List Int) (x : Int) : Nat → Bool
  | 0 => false
  | n + 1 => bif decide (xs.getD n 0 = 0) then frW xs x n else decide ((xs.length - n) % 2 = 1) && (bif decide (x = 1) then isBid (xs.getD n 0) else decide (xs.getD n 0 = 1))
def rfrI (xs : List Int) (x : Int) : Bool := bif decide (x = 0) then true else bif decide (3 ≤ x) then decide (x < 38) && decide (lbI xs < x) else frW xs x xs.length
theorem tw_app (f : Int → Bool) : ∀ (a b : List Int), (∃ x ∈ a, f x = false) → (a ++ b).takeWhile f = a.takeWhile f
  | [], _, ⟨x, h, _⟩ => by cases h
  | y :: a, b, ⟨x, h, hx⟩ => by
    simp only [List.cons_append, List.takeWhile_cons]
    cases hy : f y with
    | false => rfl
    | true =>
      rcases List.mem_cons.1 h with rfl | h
      · rw [hx] at hy; cases hy
      · rw [tw_app f a b ⟨x, h, hx⟩]
theorem tz_app (a b : List Int) (h : ∃ x ∈ b, x ≠ 0) : tz (a ++ b) = tz b := by
  obtain ⟨x, h1, h2⟩ := h
  unfold tz
  rw [List.reverse_append, tw_app _ _ _ ⟨x, List.mem_reverse.2 h1, decide_eq_false h2⟩]
theorem rc_split (xs : List Int) : xs.take (lastI xs).toNat ++ rcL xs = xs := by unfold rcL; exact List.take_append_drop _ _
theorem rc_bid {xs : List Int} (h : hasB xs = true) : (rcL xs).getD 0 0 = lbI xs ∧ isBid (lbI xs) = true ∧ 0 < (rcL xs).length ∧ (rcL xs).length = xs.length - (lastI xs).toNat := by
  have h1 := lastI_range xs
  have h2 := h1.2.2.1 h
  refine ⟨?_, (lbI_range xs).1 h, by unfold rcL; rw [List.length_drop]; omega, by unfold rcL; rw [List.length_drop]⟩
  unfold rcL lbI
  rw [drop_getD, h]; rfl
theorem rc_nob {xs : List Int} (h : hasB xs = false) : rcL xs = xs := by unfold rcL; rw [(lastI_range xs).2.2.2 h]; rfl
theorem tz_rc (xs : List Int) : tz (rcL xs) = tz xs := by
  cases h : hasB xs with
  | false => rw [rc_nob h]
  | true =>
    obtain ⟨h1, h2, h3, _⟩ := rc_bid h
    have hb := bid3 h2
    have e := tz_app (xs.take (lastI xs).toNat) (rcL xs) ⟨(rcL xs).getD 0 0, by rw [List.getD_eq_getElem?_getD, List.getElem?_eq_getElem h3]; exact List.getElem_mem h3, by omega⟩
    rw [rc_split] at e
    exact e.symm
theorem GI.hist {d : Int} {xs : List Int} (h : GI d xs) (hl : xs.length ≤ 100000) : okA (rcD d xs) (rcL xs) = true ∧ Hist (rcD d xs) (rcL xs) (Tt d xs) := by
  have hk : okA (rcD d xs) (rcL xs) = true := by
    unfold okA smallL
    simp only [Bool.and_eq_true, decide_eq_true_eq]
    refine ⟨by unfold rcD; exact (mk_range _ _).1, ?_, ?_⟩
    · unfold rcL; rw [List.length_drop]; omega
    · rw [allU_iff]
      intro c hc
      have := h.k c (by unfold rcL at hc; exact List.mem_of_mem_drop hc)
      omega
  exact ⟨hk, Go.Proofs.YtojlmpcbplepcaaGreat.hist hk h.e⟩
theorem end_gi {d : Int} {xs : List Int} (h : GI d xs) (hl : xs.length ≤ 100000) : tzE xs = ovI d xs := by
  have hh := (h.hist hl).2.tz
  have hp := h.p
  rw [tz_rc] at hh
  rw [h.ov]
  unfold tzE ovr
  rw [h.m]
  cases hasB xs with
  | true =>
    rw [cond_true, Bool.and_true, Bool.eq_iff_iff, Bool.or_eq_true, decide_eq_true_eq, decide_eq_true_eq, decide_eq_true_eq]; omega
  | false =>
    rw [cond_false, Bool.and_false, Bool.or_false, Bool.eq_iff_iff, decide_eq_true_eq, decide_eq_true_eq]; omega
theorem frW_none {xs : List Int} {x : Int} : ∀ n : Nat, (∀ j, j < n → xs.getD j 0 = 0) → frW xs x n = false
  | 0, _ => rfl
  | n + 1, h => by
    unfold frW
    rw [decide_eq_true (h n (by omega)), cond_true]
    exact frW_none n fun j hj => h j (by omega)
theorem frW_at {xs : List Int} {x : Int} {k : Nat} (hk : xs.getD k 0 ≠ 0) : ∀ n : Nat, k < n → (∀ j, k < j → j < n → xs.getD j 0 = 0) → frW xs x n = (decide ((xs.length - k) % 2 = 1) && (bif decide (x = 1) then isBid (xs.getD k 0) else decide (xs.getD k 0 = 1)))
  | 0, h, _ => by omega
  | n + 1, h, hz => by
    unfold frW
    by_cases e : n = k
    · rw [e, decide_eq_false hk, cond_false]
    · rw [decide_eq_true (hz n (by omega) (by omega)), cond_true]
      exact frW_at hk n (by omega) fun j h1 h2 => hz j h1 (by omega)
theorem free_gi {d : Int} {xs : List Int} (h : GI d xs) (hl : xs.length ≤ 100000) (ho : ovI d xs = false) {x : Int} (hx : 0 ≤ x) : rfrI xs x = frI d xs x := by
  have hov : ovr (Tt d xs) = false := by rw [← h.ov]; exact ho
  rw [h.fr]
  unfold rfrI
  by_cases h0 : x = 0
  · rw [h0, chk0 hov]; rfl
  rw [decide_eq_false h0, cond_false]
  by_cases h3 : 3 ≤ x
  · rw [decide_eq_true h3, cond_true]
    by_cases h38 : x < 38
    · have hb : isBid x = true := by simp only [isBid, Bool.and_eq_true, decide_eq_true_eq]; omega
      rw [decide_eq_true h38, Bool.true_and, chk_bid hov hb, h.c]
      cases decide (lbI xs < x) <;> rfl
    · have hc : chk (Tt d xs) x = 80 := by unfold chk; rw [decide_eq_false (show ¬ x ≤ 37 by omega)]; rfl
      rw [decide_eq_false h38, hc]; rfl
  · rw [decide_eq_false h3, cond_false]
    have h12 : x = 1 ∨ x = 2 := by omega
    obtain ⟨hk, hh⟩ := h.hist hl
    have hm := h.m
    cases hb : hasB xs with
    | false =>
      rw [hb] at hm
      have hz := (hh.nob hm).1
      rw [rc_nob hb] at hz
      rw [frW_none _ fun j hj => hz _ (by rw [List.getD_eq_getElem?_getD, List.getElem?_eq_getElem hj]; exact List.getElem_mem hj)]
      unfold chk
      rw [hov, hm]
      rcases h12 with rfl | rfl <;> rfl
    | true =>
      rw [hb] at hm
      have iv := inv_fol hk h.e
      obtain ⟨a, k, a1, k1, a4, a2, a3, a5, ak, hcase⟩ := act_is hh iv.risk hm
      obtain ⟨r1, r2, r3, r4⟩ := rc_bid hb
      have hlr := lastI_range xs
      have ha0 : a = 0 := by
        rcases Nat.eq_zero_or_pos a with e | e
        · exact e
        · -- behind the last bid there is none
          obtain ⟨q, q1, q2, q3, q4⟩ := lastN_some xs.length (show (lastN xs xs.length).2 = true from hb)
          have e1 : (rcL xs).getD a 0 = xs.getD ((lastI xs).toNat + a) 0 := by unfold rcL; rw [drop_getD]
          have e2 : (lastI xs).toNat = q := by show (lastN xs xs.length).1.toNat = q; rw [q2]; rfl
          have := q4 (q + a) (by omega) (by omega)
          rw [← e2, ← e1, a2, a3] at this; cases this
      have ek : (rcL xs).getD k 0 = xs.getD ((lastI xs).toNat + k) 0 := by unfold rcL; rw [drop_getD]
      have hak : actN (rcL xs) (rcL xs).length = (k : Int) := ak
      obtain ⟨kz, kn⟩ : (rcL xs).getD k 0 ≠ 0 ∧ ∀ j, k < j → j < (rcL xs).length → (rcL xs).getD j 0 = 0 := by
        rcases actN_spec (rcL xs) (rcL xs).length with ⟨h1, _⟩ | ⟨k', _, h2, h3, h4⟩
        · rw [hak] at h1; omega
        · have : k' = k := by omega
          subst this; exact ⟨h3, h4⟩
      have hb3 : 3 ≤ (rcL xs).getD a 0 := by rw [a2]; have := bid3 a3; omega
      rw [frW_at (k := (lastI xs).toNat + k) (by rw [← ek]; exact kz) xs.length (by omega) (fun j h1 h2 => by
        have := kn (j - (lastI xs).toNat) (by omega) (by omega)
        unfold rcL at this
        rw [drop_getD, show (lastI xs).toNat + (j - (lastI xs).toNat) = j by omega] at this
        exact this), ← ek]
      have ht := hh.turn
      have hs2 : same2 (Tt d xs) = decide ((rcL xs).length % 2 = 0) := by
        unfold same2
        rw [a4, ht, ha0, Int.tmod_eq_emod_of_nonneg (by omega), Int.tmod_eq_emod_of_nonneg (by omega)]
        congr 1; simp only [eq_iff_iff]; omega
      have hpar : decide ((xs.length - ((lastI xs).toNat + k)) % 2 = 1) = decide (((rcL xs).length - k) % 2 = 1) := by rw [show xs.length - ((lastI xs).toNat + k) = (rcL xs).length - k by omega]
      rw [hpar]
      unfold chk
      rw [hov, hm, hs2]
      rcases hcase with ⟨q1, q2⟩ | ⟨q1, q2, q3, q4⟩
      · subst q2
        rw [ha0] at a2 hb3 ⊢
        rw [q1, a2]
        rcases h12 with rfl | rfl
        · rw [a3]
          by_cases hp : (rcL xs).length % 2 = 0
          · rw [decide_eq_true hp, decide_eq_false (show ¬ ((rcL xs).length - 0) % 2 = 1 by omega)]; rfl
          · rw [decide_eq_false hp, decide_eq_true (show ((rcL xs).length - 0) % 2 = 1 by omega)]; rfl
        · rw [decide_eq_false (show ¬ (Tt d xs).b.c = 1 by rw [← a2]; omega)]
          cases decide ((rcL xs).length % 2 = 0) <;> cases decide (((rcL xs).length - 0) % 2 = 1) <;> rfl
      · have q5 := iv.risk.2
        have q6 : (Tt d xs).risk ≤ 2 := q5
        rw [q3]
        have nb : isBid (Tt d xs).risk = false := by
          cases hbb : isBid (Tt d xs).risk with
          | false => rfl
          | true => have := bid3 hbb; omega
        rw [nb, ha0] at *
        rcases h12 with rfl | rfl
        · rw [decide_eq_false (show ¬ (Tt d xs).risk = 0 by omega)]
          cases decide ((rcL xs).length % 2 = 0) <;> cases decide (((rcL xs).length - k) % 2 = 1) <;> rfl
        · by_cases hr : (Tt d xs).risk = 1
          · have hp : ¬ (k - (0 + 1)) % 2 = 1 := by
              intro hp
              rw [decide_eq_true hp, decide_eq_false (show ¬ (Tt d xs).risk = 2 by omega)] at q4
              cases q4
            rw [decide_eq_true hr]
            by_cases hp2 : (rcL xs).length % 2 = 0
            · rw [decide_eq_true hp2, decide_eq_true (show ((rcL xs).length - k) % 2 = 1 by omega)]; rfl
            · rw [decide_eq_false hp2, decide_eq_false (show ¬ ((rcL xs).length - k) % 2 = 1 by omega)]; rfl
          · rw [decide_eq_false hr]
            cases decide ((rcL xs).length % 2 = 0) <;> cases decide (((rcL xs).length - k) % 2 = 1) <;> rfl
end Go.Proofs.YtojlmpcbplepcaaGreat
