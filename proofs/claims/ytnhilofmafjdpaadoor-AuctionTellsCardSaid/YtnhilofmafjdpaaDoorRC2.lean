/- Chapter 9: Allowed says what check says; the contracts of Ended and Allowed. -/
import Derived.Test.YtnhilofmafjdpaaDoorRC
namespace Go.Proofs.YtnhilofmafjdpaaDoor
open Go Go.Eng
theorem chk_two {s : St} {c : Int} (ho : ovr s = false) (hc : c ≤ 37) : chk s c = bif decide (chk s c = 0) then 0 else 2 := by
  unfold chk
  rw [ho, decide_eq_true hc]
  by_cases h0 : c = 0
  · rw [decide_eq_true h0]; rfl
  · rw [decide_eq_false h0]
    by_cases h1 : c = 1
    · rw [decide_eq_true h1]; cases (s.b.m && (!same2 s && decide (s.risk = 0))) <;> rfl
    · rw [decide_eq_false h1]
      by_cases h2 : c = 2
      · rw [decide_eq_true h2]; cases (s.b.m && (same2 s && decide (s.risk = 1))) <;> rfl
      · rw [decide_eq_false h2]; cases decide (s.b.c < c) <;> rfl
theorem alw_is {d : Int} {l : List Int} {c : Int} (hk : okA d l = true) (hr : (fol d l).e = 0) (ho : ovr (fol d l).s = false) (hc : 0 ≤ c ∧ c ≤ 37) : alwV l c = decide (chk (fol d l).s c = 0) := by
  have hh := hist hk hr
  have iv := inv_fol hk hr
  have hbn := bd_none (fol_d hr) l hr (okA_U hk)
  have hlm := last_made hh
  have hd0 : 0 ≤ d := by simp only [okA, Bool.and_eq_true, decide_eq_true_eq] at hk; exact hk.1
  have hd3 := fol_d hr
  generalize (fol d l).s = s at *
  have hof : Int.ofNat l.length = (l.length : Int) := rfl
  unfold alwV chk
  rw [ho, decide_eq_true hc.2, hlm]
  by_cases h0 : c = 0
  · rw [decide_eq_true h0]; rfl
  rw [decide_eq_false h0]
  by_cases h3 : 3 ≤ c
  · -- a bid
    rw [decide_eq_true h3, decide_eq_false (show ¬ c = 1 by omega), decide_eq_false (show ¬ c = 2 by omega), decide_eq_true (show c < 38 by omega)]
    cases hm : s.b.m with
    | false =>
      rw [decide_eq_true (show s.b.c < c by rw [hbn hm]; omega)]; rfl
    | true =>
      obtain ⟨a, a1, a2, a3, _, a5, _⟩ := hh.bid hm
      obtain ⟨k, k1, k2, k3, k4⟩ := lastN_some l.length (by rw [hlm, hm] : (lastN l l.length).2 = true)
      have hka : k = a := by
        rcases Nat.lt_trichotomy k a with h | h | h
        · have := k4 a h a1; rw [a2, a3] at this; cases this
        · exact h
        · have := a5 k h k1; rw [k3] at this; cases this
      rw [k2, show ((k : Int)).toNat = k from rfl, hka, a2]
      cases decide (s.b.c < c) <;> rfl
  · rw [decide_eq_false h3]
    have h12 : c = 1 ∨ c = 2 := by omega
    cases hm : s.b.m with
    | false =>
      have hz := (hh.nob hm).1
      have ha : actV l = -1 := by
        rcases actN_spec l l.length with ⟨h1, _⟩ | ⟨k, k1, _, k3, _⟩
        · exact h1
        · exact absurd (hz (l.getD k 0) (by rw [List.getD_eq_getElem?_getD, List.getElem?_eq_getElem k1]; exact List.getElem_mem k1)) k3
      rw [ha]
      rcases h12 with rfl | rfl <;> rfl
    | true =>
      obtain ⟨a, k, a1, k1, a4, a2, a3, _, ak, hcase⟩ := act_is hh iv.risk hm
      have hb3 : 3 ≤ l.getD a 0 := by rw [a2]; simp only [isBid, Bool.and_eq_true, decide_eq_true_eq] at a3; omega
      rw [ak, show ((k : Int)).toNat = k from rfl, decide_eq_false (show ¬ (k : Int) < 0 by omega), hof]
      have hs2 : same2 s = decide (((l.length : Int) - (a : Int)) % 2 = 0) := by
        unfold same2
        rw [a4, hh.turn, Int.tmod_eq_emod_of_nonneg (by omega), Int.tmod_eq_emod_of_nonneg (by omega)]
        congr 1; simp only [eq_iff_iff]; omega
      rcases hcase with ⟨r0, rfl⟩ | ⟨r1, hlt, hv, hpar⟩
      · rw [r0, hs2]
        rcases h12 with rfl | rfl
        · rw [decide_eq_true hb3]
          cases decide (((l.length : Int) - (k : Int)) % 2 = 0) <;> rfl
        · rw [decide_eq_false (show ¬ l.getD k 0 = 1 by omega)]
          cases decide (((l.length : Int) - (k : Int)) % 2 = 0) <;> rfl
      · rw [hv, hs2]
        have hr2 := iv.risk.2
        rcases h12 with rfl | rfl
        · rw [decide_eq_false (show ¬ 3 ≤ s.risk by omega), decide_eq_false (show ¬ s.risk = 0 by omega)]
          cases decide (((l.length : Int) - (k : Int)) % 2 = 0) <;> cases decide (((l.length : Int) - (a : Int)) % 2 = 0) <;> rfl
        · by_cases hr1 : s.risk = 1
          · have hp : ¬ (k - (a + 1)) % 2 = 1 := by
              intro h
              rw [decide_eq_true h, decide_eq_false (show ¬ s.risk = 2 by omega)] at hpar
              cases hpar
            have e : decide (((l.length : Int) - (k : Int)) % 2 = 0) = !decide (((l.length : Int) - (a : Int)) % 2 = 0) := by
              rw [← decide_not]; congr 1; simp only [eq_iff_iff]; omega
            rw [decide_eq_true hr1, e]
            cases decide (((l.length : Int) - (a : Int)) % 2 = 0) <;> rfl
          · rw [decide_eq_false hr1]
            cases decide (((l.length : Int) - (k : Int)) % 2 = 0) <;> cases decide (((l.length : Int) - (a : Int)) % 2 = 0) <;> rfl
/-! ### the contracts -/
theorem ended_fn (nn : Bool) {xs : List Int} (h : smallL xs = true) : FnOK Tryd.prog 62 [.gs 0] [.rs nn 1 (.ints .u8 xs)] (.bool (endV xs)) [.rs nn 1 (.ints .u8 xs)] := by
  have hv : evalFn Tryd.prog (orcR1 rF emptyTab plainL) noLoops 100 62 Tryd.f62 [.gs 0] [.rs nn 1 (.ints .u8 xs)] (fun v _ => some v) = some (.bool (endV xs)) := by
    rw [ended_eval]
    unfold endE endV
    rw [show rF.KS xs = true from h, show rF.PK xs 3 = true by show psK xs 3 = true; unfold psK; rw [h]; rfl, show rF.PK xs 4 = true by show psK xs 4 = true; unfold psK; rw [h]; rfl, show rF.LB xs = (lastN xs xs.length).2 from rfl]
    cases (lastN xs xs.length).2 with
    | true => rfl
    | false => cases decide (Int.ofNat xs.length = 4) <;> rfl
  obtain ⟨v1, h1, hk, hok⟩ := evalFn_ok (orcR1_ok emptyTab_ok plainL_ok) mixed Tryd.func62 noLoops_ok hv
  cases hk
  exact hok.plain rfl rs_ro
theorem getD_at {l : List Int} {k : Nat} (h : k < l.length) : l.getD k 0 = l[k] := by rw [List.getD_eq_getElem?_getD, List.getElem?_eq_getElem h]; rfl
theorem allowed_fn (nn : Bool) {xs : List Int} {c : Int} (h : smallL xs = true) : FnOK Tryd.prog 63 [.gs 0, .int .u8 c] [.rs nn 1 (.ints .u8 xs)] (.bool (alwV xs c)) [.rs nn 1 (.ints .u8 xs)] := by
  have hv : evalFn Tryd.prog (orcR1 rF emptyTab plainL) noLoops 100 63 Tryd.f63 [.gs 0, .int .u8 c] [.rs nn 1 (.ints .u8 xs)] (fun v _ => some v) = some (.bool (alwV xs c)) := by
    have hs := h
    simp only [smallL, decide_eq_true_eq] at hs
    rw [allowed_eval]
    unfold alwE alwV
    rw [show rF.KS xs = true from h, show rF.LB xs = (lastN xs xs.length).2 from rfl, show rF.LI xs = (lastN xs xs.length).1 from rfl, show rF.AC xs = actV xs from rfl]
    cases decide (c = 0) with
    | true => rfl
    | false =>
      cases decide (3 ≤ c) with
      | true =>
        cases decide (c < 38) with
        | false => rfl
        | true =>
          cases hb : (lastN xs xs.length).2 with
          | false => rfl
          | true =>
            obtain ⟨k, k1, k2, _, _⟩ := lastN_some xs.length hb
            rw [k2, atU_at k1, show ((k : Int)).toNat = k from rfl, getD_at k1]; rfl
      | false =>
        rcases actN_spec xs xs.length with ⟨h1, _⟩ | ⟨k, k1, k2, _, _⟩
        · rw [show actV xs = -1 from h1]; rfl
        · rw [show actV xs = (k : Int) from k2, atU_at k1, atU_at k1, show ((k : Int)).toNat = k from rfl, getD_at k1, decide_eq_false (show ¬ (k : Int) < 0 by omega)]
          have hof : Int.ofNat xs.length = (xs.length : Int) := rfl
          rw [hof, wr64 (n := (xs.length : Int) - (k : Int)) (by omega) (by omega), Int.tmod_eq_emod_of_nonneg (by omega)]
          cases decide (((xs.length : Int) - (k : Int)) % 2 = 0) <;> cases decide (c = 1) <;> rfl
  obtain ⟨v1, h1, hk, hok⟩ := evalFn_ok (orcR1_ok emptyTab_ok plainL_ok) mixed Tryd.func63 noLoops_ok hv
  cases hk
  exact hok.plain rfl rs_ro
end Go.Proofs.YtnhilofmafjdpaaDoor
