/- Texts merged: RC, RC2. -/
import Derived.Test.YtnhilofmafjdpaaDoorRB
import Derived.Test.YtnhilofmafjdpaaDoorHist
/- Chapter 9: Ended and Allowed say what over and check say: plainly. -/
namespace Go.Proofs.YtnhilofmafjdpaaDoor
open Go Go.Eng
theorem allZ_iff : ∀ {l : List Int}, allZ l = true ↔ ∀ x ∈ l, x = 0
  | [] => by simp [allZ]
  | x :: r => by simp [allZ, allZ_iff (l := r)]
theorem take_zero : ∀ (r : List Int) (n : Nat), n ≤ r.length → ((∀ x ∈ r.take n, x = 0) ↔ n ≤ (r.takeWhile fun x => decide (x = 0)).length)
  | _, 0, _ => by simp
  | [], n + 1, h => by simp at h
  | x :: r, n + 1, h => by
    simp only [List.length_cons] at h
    have ih := take_zero r n (by omega)
    simp only [List.take_succ_cons, List.mem_cons, forall_eq_or_imp, List.takeWhile_cons]
    by_cases hx : x = 0
    · rw [decide_eq_true hx, if_pos rfl, List.length_cons, ih]
      constructor
      · rintro ⟨_, h⟩; omega
      · intro h; exact ⟨hx, by omega⟩
    · rw [decide_eq_false hx]
      simp [hx]
theorem tz_len (l : List Int) : tz l ≤ l.length := by
  unfold tz
  have := (List.takeWhile_prefix (l := l.reverse) (fun x => decide (x = 0))).length_le
  rw [List.length_reverse] at this; exact this
theorem psV_is (l : List Int) (n : Nat) : psV l (n : Int) = decide (n ≤ tz l) := by
  unfold psV
  have hof : Int.ofNat l.length = (l.length : Int) := rfl
  have ht := tz_len l
  by_cases h : l.length < n
  · rw [decide_eq_true (show Int.ofNat l.length < (n : Int) by omega), decide_eq_false (by omega)]; rfl
  · rw [decide_eq_false (show ¬ Int.ofNat l.length < (n : Int) by omega), cond_false, Bool.eq_iff_iff, decide_eq_true_eq]
    unfold zFrom
    rw [allZ_iff, show (Int.ofNat l.length - (n : Int)).toNat = l.length - n by omega]
    have e : l.drop (l.length - n) = (l.reverse.take n).reverse := by rw [List.take_reverse, List.reverse_reverse]
    rw [e]
    simp only [List.mem_reverse]
    exact take_zero l.reverse n (by rw [List.length_reverse]; omega)
def endV (xs : List Int) : Bool := bif (lastN xs xs.length).2 then psV xs 3 else decide (Int.ofNat xs.length = 4) && psV xs 4
theorem last_made {d : Int} {l : List Int} {s : St} (h : Hist d l s) : (lastN l l.length).2 = s.b.m := by
  cases hm : s.b.m with
  | true =>
    obtain ⟨a, a1, a2, a3, _⟩ := h.bid hm
    cases hb : (lastN l l.length).2 with
    | true => rfl
    | false => have := lastN_none l.length hb a a1; rw [a2, a3] at this; cases this
  | false =>
    cases hb : (lastN l l.length).2 with
    | false => rfl
    | true =>
      obtain ⟨k, k1, _, k3, _⟩ := lastN_some l.length hb
      have := (h.nob hm).1 (l.getD k 0) (by rw [List.getD_eq_getElem?_getD, List.getElem?_eq_getElem k1]; exact List.getElem_mem k1)
      rw [this] at k3; cases k3
theorem end_is {d : Int} {l : List Int} (hk : okA d l = true) (hr : (fol d l).e = 0) : endV l = ovr (fol d l).s := by
  have hh := hist hk hr
  have hp := passes_ok (fol_d hr) l hr (okA_U hk)
  have ht := hh.tz
  unfold endV ovr
  rw [last_made hh]
  have e3 : psV l 3 = decide (3 ≤ tz l) := psV_is l 3
  have e4 : psV l 4 = decide (4 ≤ tz l) := psV_is l 4
  have hof : Int.ofNat l.length = (l.length : Int) := rfl
  cases hm : (fol d l).s.b.m with
  | true =>
    simp only [cond_true]
    rw [e3, Bool.eq_iff_iff, decide_eq_true_eq, decide_eq_true_eq]; omega
  | false =>
    obtain ⟨_, n2, _⟩ := hh.nob hm
    simp only [cond_false]
    rw [e4, Bool.eq_iff_iff, Bool.and_eq_true, decide_eq_true_eq, decide_eq_true_eq, decide_eq_true_eq]; omega
theorem bd_none {d : Int} (hd : d ≤ 3) : ∀ l : List Int, (fol d l).e = 0 → allU l = true → (fol d l).s.b.m = false → (fol d l).s.b.c = 0 := by
  have key := right_ind (d := d) hd (P := fun l s => allU l = true → s.b.m = false → s.b.c = 0) (fun _ _ => rfl) (fun l c hl ih hc hu => by
    have hu1 : allU l = true := by rw [allU_iff] at hu ⊢; exact fun x hx => hu x (List.mem_append_left _ hx)
    have hc0 : 0 ≤ c := by rw [allU_iff] at hu; exact (hu c (by simp)).1
    have hc37 := (chk_open hc).2
    have h4 : c = 0 ∨ (c = 1 ∨ c = 2) ∨ isBid c = true := by
      simp only [isBid, Bool.and_eq_true, decide_eq_true_eq]; omega
    intro hm
    rcases h4 with rfl | h4 | h4
    · rw [aft_pass] at hm ⊢; exact ih hu1 hm
    · rw [aft_dbl h4] at hm ⊢; exact ih hu1 hm
    · rw [(aft_bc (s := (fol d l).s) h4).2.1] at hm; cases hm)
  exact fun l h hu hm => key l h hu hm
theorem actN_spec (xs : List Int) : ∀ n, (actN xs n = -1 ∧ ∀ j, j < n → xs.getD j 0 = 0) ∨ ∃ k : Nat, k < n ∧ actN xs n = (k : Int) ∧ xs.getD k 0 ≠ 0 ∧ ∀ j, k < j → j < n → xs.getD j 0 = 0
  | 0 => .inl ⟨rfl, fun j h => by omega⟩
  | n + 1 => by
    unfold actN
    by_cases hz : xs.getD n 0 = 0
    · rw [decide_eq_true hz, cond_true]
      rcases actN_spec xs n with ⟨h1, h2⟩ | ⟨k, h1, h2, h3, h4⟩
      · refine .inl ⟨h1, fun j hj => ?_⟩
        by_cases e : j = n
        · rw [e]; exact hz
        · exact h2 j (by omega)
      · refine .inr ⟨k, by omega, h2, h3, fun j h5 h6 => ?_⟩
        by_cases e : j = n
        · rw [e]; exact hz
        · exact h4 j h5 (by omega)
    · rw [decide_eq_false hz, cond_false]
      exact .inr ⟨n, by omega, rfl, hz, fun j h1 h2 => by omega⟩
theorem rkF_spec : ∀ (t : List Int) (k : Nat) (r R : Int), rkF k r t = some R → (R = r ∧ ∀ j, j < t.length → t.getD j 0 = 0) ∨ ∃ j, j < t.length ∧ r < R ∧ t.getD j 0 = R ∧ (∀ i, j < i → i < t.length → t.getD i 0 = 0) ∧ decide ((k + j) % 2 = 1) = decide (R = 2)
  | [], k, r, R, h => by cases h; exact .inl ⟨rfl, fun j hj => by simp at hj⟩
  | x :: t, k, r, R, h => by
    simp only [rkF] at h
    by_cases hx : x = 0
    · rw [if_pos hx] at h
      rcases rkF_spec t (k + 1) r R h with ⟨h1, h2⟩ | ⟨j, h1, h2, h3, h4, h5⟩
      · refine .inl ⟨h1, fun j hj => ?_⟩
        cases j with
        | zero => exact hx
        | succ j => simp only [List.length_cons] at hj; rw [List.getD_cons_succ]; exact h2 j (by omega)
      · refine .inr ⟨j + 1, by simp only [List.length_cons]; omega, h2, by rw [List.getD_cons_succ]; exact h3, fun i h6 h7 => ?_, by rw [← h5, show k + (j + 1) = k + 1 + j by omega]⟩
        cases i with
        | zero => omega
        | succ i => simp only [List.length_cons] at h7; rw [List.getD_cons_succ]; exact h4 i (by omega) (by omega)
    · rw [if_neg hx] at h
      by_cases hc : x = r + 1 ∧ decide (k % 2 = 1) = decide (r = 1)
      · rw [if_pos hc] at h
        rcases rkF_spec t (k + 1) (r + 1) R h with ⟨h1, h2⟩ | ⟨j, h1, h2, h3, h4, h5⟩
        · refine .inr ⟨0, by simp, by omega, by rw [h1]; exact hc.1, fun i h6 h7 => ?_, ?_⟩
          · cases i with
            | zero => omega
            | succ i => simp only [List.length_cons] at h7; rw [List.getD_cons_succ]; exact h2 i (by omega)
          · rw [Nat.add_zero, hc.2]; congr 1; simp only [eq_iff_iff]; omega
        · refine .inr ⟨j + 1, by simp only [List.length_cons]; omega, by omega, by rw [List.getD_cons_succ]; exact h3, fun i h6 h7 => ?_, by rw [← h5, show k + (j + 1) = k + 1 + j by omega]⟩
          cases i with
          | zero => omega
          | succ i => simp only [List.length_cons] at h7; rw [List.getD_cons_succ]; exact h4 i (by omega) (by omega)
      · rw [if_neg hc] at h; cases h
def alwV (xs : List Int) (c : Int) : Bool := bif decide (c = 0) then true else bif decide (3 ≤ c) then decide (c < 38) && (!(lastN xs xs.length).2 || decide (xs.getD (lastN xs xs.length).1.toNat 0 < c)) else
  !decide (actV xs < 0) && (!decide ((Int.ofNat xs.length - actV xs) % 2 = 0) && bif decide (c = 1) then decide (3 ≤ xs.getD (actV xs).toNat 0) else decide (xs.getD (actV xs).toNat 0 = 1))
theorem drop_getD (l : List Int) (a j : Nat) : (l.drop a).getD j 0 = l.getD (a + j) 0 := by
  rw [List.getD_eq_getElem?_getD, List.getD_eq_getElem?_getD, List.getElem?_drop]
/-- The last call that is no pass. -/
theorem act_is {d : Int} {l : List Int} {s : St} (hh : Hist d l s) (hr : 0 ≤ s.risk ∧ s.risk ≤ 2) (hm : s.b.m = true) : ∃ a k : Nat, a < l.length ∧ k < l.length ∧ s.b.s = (d + (a : Int)) % 4 ∧ l.getD a 0 = s.b.c ∧ isBid s.b.c = true ∧ (∀ j, a < j → j < l.length → isBid (l.getD j 0) = false) ∧ actV l = (k : Int) ∧
    ((s.risk = 0 ∧ k = a) ∨ (1 ≤ s.risk ∧ a < k ∧ l.getD k 0 = s.risk ∧ decide ((k - (a + 1)) % 2 = 1) = decide (s.risk = 2))) := by
  obtain ⟨a, a1, a2, a3, a4, a5, a6⟩ := hh.bid hm
  have hb3 : 3 ≤ l.getD a 0 := by rw [a2]; simp only [isBid, Bool.and_eq_true, decide_eq_true_eq] at a3; omega
  rcases actN_spec l l.length with ⟨_, h2⟩ | ⟨k, k1, k2, k3, k4⟩
  · have := h2 a a1; omega
  · refine ⟨a, k, a1, k1, a4, a2, a3, a5, k2, ?_⟩
    have hka : a ≤ k := by
      rcases Nat.lt_or_ge k a with h | h
      · have := k4 a h a1; omega
      · exact h
    have hdl : (l.drop (a + 1)).length = l.length - (a + 1) := List.length_drop
    rcases rkF_spec _ _ _ _ a6 with ⟨r1, r2⟩ | ⟨j, j1, j2, j3, j4, j5⟩
    · refine .inl ⟨r1, ?_⟩
      rcases Nat.eq_or_lt_of_le hka with h | h
      · exact h.symm
      · have := r2 (k - (a + 1)) (by omega)
        rw [drop_getD, show a + 1 + (k - (a + 1)) = k by omega] at this
        exact absurd this k3
    · rw [drop_getD] at j3
      have hk : k = a + 1 + j := by
        rcases Nat.lt_trichotomy k (a + 1 + j) with h | h | h
        · have := k4 (a + 1 + j) h (by omega); omega
        · exact h
        · have := j4 (k - (a + 1)) (by omega) (by omega)
          rw [drop_getD, show a + 1 + (k - (a + 1)) = k by omega] at this
          exact absurd this k3
      refine .inr ⟨by omega, by omega, by rw [hk]; exact j3, ?_⟩
      rw [← j5, show k - (a + 1) = 0 + j by omega]
end Go.Proofs.YtnhilofmafjdpaaDoor

/- Chapter 9: Allowed says what check says; the contracts of Ended and Allowed. -/
namespace Go.Proofs.YtnhilofmafjdpaaDoor
open Go Go.Eng
theorem chk_two {s : St} {c : Int} (ho : ovr s = false) (hc : c ≤ 37) : chk s c = bif decide (chk s c = 0) then 0 else 2 := by
  unfold chk
  rw [ho, decide_eq_true hc]
  by_cases h0 : c = 0
  · rw [decide_eq_true h0]; rfl
  · rw [decide_eq_false h0]
    by_cases h1 : c = 1
    · rw [decide_eq_true h1]; cases (s.b.m && (!same2 s && decide (s.risk = 0))) <;> rfl
    · rw [decide_eq_false h1]
      by_cases h2 : c = 2
      · rw [decide_eq_true h2]; cases (s.b.m && (same2 s && decide (s.risk = 1))) <;> rfl
      · rw [decide_eq_false h2]; cases decide (s.b.c < c) <;> rfl
theorem alw_is {d : Int} {l : List Int} {c : Int} (hk : okA d l = true) (hr : (fol d l).e = 0) (ho : ovr (fol d l).s = false) (hc : 0 ≤ c ∧ c ≤ 37) : alwV l c = decide (chk (fol d l).s c = 0) := by
  have hh := hist hk hr
  have iv := inv_fol hk hr
  have hbn := bd_none (fol_d hr) l hr (okA_U hk)
  have hlm := last_made hh
  have hd0 : 0 ≤ d := by simp only [okA, Bool.and_eq_true, decide_eq_true_eq] at hk; exact hk.1
  have hd3 := fol_d hr
  generalize (fol d l).s = s at *
  have hof : Int.ofNat l.length = (l.length : Int) := rfl
  unfold alwV chk
  rw [ho, decide_eq_true hc.2, hlm]
  by_cases h0 : c = 0
  · rw [decide_eq_true h0]; rfl
  rw [decide_eq_false h0]
  by_cases h3 : 3 ≤ c
  · -- a bid
    rw [decide_eq_true h3, decide_eq_false (show ¬ c = 1 by omega), decide_eq_false (show ¬ c = 2 by omega), decide_eq_true (show c < 38 by omega)]
    cases hm : s.b.m with
    | false =>
      rw [decide_eq_true (show s.b.c < c by rw [hbn hm]; omega)]; rfl
    | true =>
      obtain ⟨a, a1, a2, a3, _, a5, _⟩ := hh.bid hm
      obtain ⟨k, k1, k2, k3, k4⟩ := lastN_some l.length (by rw [hlm, hm] : (lastN l l.length).2 = true)
      have hka : k = a := by
        rcases Nat.lt_trichotomy k a with h | h | h
        · have := k4 a h a1; rw [a2, a3] at this; cases this
        · exact h
        · have := a5 k h k1; rw [k3] at this; cases this
      rw [k2, show ((k : Int)).toNat = k from rfl, hka, a2]
      cases decide (s.b.c < c) <;> rfl
  · rw [decide_eq_false h3]
    have h12 : c = 1 ∨ c = 2 := by omega
    cases hm : s.b.m with
    | false =>
      have hz := (hh.nob hm).1
      have ha : actV l = -1 := by
        rcases actN_spec l l.length with ⟨h1, _⟩ | ⟨k, k1, _, k3, _⟩
        · exact h1
        · exact absurd (hz (l.getD k 0) (by rw [List.getD_eq_getElem?_getD, List.getElem?_eq_getElem k1]; exact List.getElem_mem k1)) k3
      rw [ha]
      rcases h12 with rfl | rfl <;> rfl
    | true =>
      obtain ⟨a, k, a1, k1, a4, a2, a3, _, ak, hcase⟩ := act_is hh iv.risk hm
      have hb3 : 3 ≤ l.getD a 0 := by rw [a2]; simp only [isBid, Bool.and_eq_true, decide_eq_true_eq] at a3; omega
      rw [ak, show ((k : Int)).toNat = k from rfl, decide_eq_false (show ¬ (k : Int) < 0 by omega), hof]
      have hs2 : same2 s = decide (((l.length : Int) - (a : Int)) % 2 = 0) := by
        unfold same2
        rw [a4, hh.turn, Int.tmod_eq_emod_of_nonneg (by omega), Int.tmod_eq_emod_of_nonneg (by omega)]
        congr 1; simp only [eq_iff_iff]; omega
      rcases hcase with ⟨r0, rfl⟩ | ⟨r1, hlt, hv, hpar⟩
      · rw [r0, hs2]
        rcases h12 with rfl | rfl
        · rw [decide_eq_true hb3]
          cases decide (((l.length : Int) - (k : Int)) % 2 = 0) <;> rfl
        · rw [decide_eq_false (show ¬ l.getD k 0 = 1 by omega)]
          cases decide (((l.length : Int) - (k : Int)) % 2 = 0) <;> rfl
      · rw [hv, hs2]
        have hr2 := iv.risk.2
        rcases h12 with rfl | rfl
        · rw [decide_eq_false (show ¬ 3 ≤ s.risk by omega), decide_eq_false (show ¬ s.risk = 0 by omega)]
          cases decide (((l.length : Int) - (k : Int)) % 2 = 0) <;> cases decide (((l.length : Int) - (a : Int)) % 2 = 0) <;> rfl
        · by_cases hr1 : s.risk = 1
          · have hp : ¬ (k - (a + 1)) % 2 = 1 := by
              intro h
              rw [decide_eq_true h, decide_eq_false (show ¬ s.risk = 2 by omega)] at hpar
              cases hpar
            have e : decide (((l.length : Int) - (k : Int)) % 2 = 0) = !decide (((l.length : Int) - (a : Int)) % 2 = 0) := by
              rw [← decide_not]; congr 1; simp only [eq_iff_iff]; omega
            rw [decide_eq_true hr1, e]
            cases decide (((l.length : Int) - (a : Int)) % 2 = 0) <;> rfl
          · rw [decide_eq_false hr1]
            cases decide (((l.length : Int) - (k : Int)) % 2 = 0) <;> cases decide (((l.length : Int) - (a : Int)) % 2 = 0) <;> rfl
/-! ### the contracts -/
theorem ended_fn (nn : Bool) {xs : List Int} (h : smallL xs = true) : FnOK Tryd.prog 62 [.gs 0] [.rs nn 1 (.ints .u8 xs)] (.bool (endV xs)) [.rs nn 1 (.ints .u8 xs)] := by
  have hv : evalFn Tryd.prog (orcR1 rF emptyTab plainL) noLoops 100 62 Tryd.f62 [.gs 0] [.rs nn 1 (.ints .u8 xs)] (fun v _ => some v) = some (.bool (endV xs)) := by
    rw [ended_eval]
    unfold endE endV
    rw [show rF.KS xs = true from h, show rF.PK xs 3 = true by show psK xs 3 = true; unfold psK; rw [h]; rfl, show rF.PK xs 4 = true by show psK xs 4 = true; unfold psK; rw [h]; rfl, show rF.LB xs = (lastN xs xs.length).2 from rfl]
    cases (lastN xs xs.length).2 with
    | true => rfl
    | false => cases decide (Int.ofNat xs.length = 4) <;> rfl
  obtain ⟨v1, h1, hk, hok⟩ := evalFn_ok (orcR1_ok emptyTab_ok plainL_ok) mixed Tryd.func62 noLoops_ok hv
  cases hk
  exact hok.plain rfl rs_ro
theorem getD_at {l : List Int} {k : Nat} (h : k < l.length) : l.getD k 0 = l[k] := by rw [List.getD_eq_getElem?_getD, List.getElem?_eq_getElem h]; rfl
theorem allowed_fn (nn : Bool) {xs : List Int} {c : Int} (h : smallL xs = true) : FnOK Tryd.prog 63 [.gs 0, .int .u8 c] [.rs nn 1 (.ints .u8 xs)] (.bool (alwV xs c)) [.rs nn 1 (.ints .u8 xs)] := by
  have hv : evalFn Tryd.prog (orcR1 rF emptyTab plainL) noLoops 100 63 Tryd.f63 [.gs 0, .int .u8 c] [.rs nn 1 (.ints .u8 xs)] (fun v _ => some v) = some (.bool (alwV xs c)) := by
    have hs := h
    simp only [smallL, decide_eq_true_eq] at hs
    rw [allowed_eval]
    unfold alwE alwV
    rw [show rF.KS xs = true from h, show rF.LB xs = (lastN xs xs.length).2 from rfl, show rF.LI xs = (lastN xs xs.length).1 from rfl, show rF.AC xs = actV xs from rfl]
    cases decide (c = 0) with
    | true => rfl
    | false =>
      cases decide (3 ≤ c) with
      | true =>
        cases decide (c < 38) with
        | false => rfl
        | true =>
          cases hb : (lastN xs xs.length).2 with
          | false => rfl
          | true =>
            obtain ⟨k, k1, k2, _, _⟩ := lastN_some xs.length hb
            rw [k2, atU_at k1, show ((k : Int)).toNat = k from rfl, getD_at k1]; rfl
      | false =>
        rcases actN_spec xs xs.length with ⟨h1, _⟩ | ⟨k, k1, k2, _, _⟩
        · rw [show actV xs = -1 from h1]; rfl
        · rw [show actV xs = (k : Int) from k2, atU_at k1, atU_at k1, show ((k : Int)).toNat = k from rfl, getD_at k1, decide_eq_false (show ¬ (k : Int) < 0 by omega)]
          have hof : Int.ofNat xs.length = (xs.length : Int) := rfl
          rw [hof, wr64 (n := (xs.length : Int) - (k : Int)) (by omega) (by omega), Int.tmod_eq_emod_of_nonneg (by omega)]
          cases decide (((xs.length : Int) - (k : Int)) % 2 = 0) <;> cases decide (c = 1) <;> rfl
  obtain ⟨v1, h1, hk, hok⟩ := evalFn_ok (orcR1_ok emptyTab_ok plainL_ok) mixed Tryd.func63 noLoops_ok hv
  cases hk
  exact hok.plain rfl rs_ro
end Go.Proofs.YtnhilofmafjdpaaDoor
