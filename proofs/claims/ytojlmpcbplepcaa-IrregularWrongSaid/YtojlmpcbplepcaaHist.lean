/- Chapter 9: what a state tells of the calls that led to it. -/
import Derived.Test.YtojlmpcbplepcaaInv
namespace Go.Proofs.Ytojlmpcbplepcaa
open Go Go.Eng
/-- The risk that some calls behind the last bid make: k is the first one's place. -/
def rkF : Nat → Int → List Int → Option Int
  | _, r, [] => some r
  | k, r, x :: t => if x = 0 then rkF (k + 1) r t else if x = r + 1 ∧ decide (k % 2 = 1) = decide (r = 1) then rkF (k + 1) (r + 1) t else none
def rkS (k : Nat) (x : Int) (r : Int) : Option Int := if x = 0 then some r else if x = r + 1 ∧ decide (k % 2 = 1) = decide (r = 1) then some (r + 1) else none
theorem rkF_snoc (x : Int) : ∀ (t : List Int) (k : Nat) (r : Int), rkF k r (t ++ [x]) = (rkF k r t).bind (rkS (k + t.length) x)
  | [], k, r => by
    simp only [List.nil_append, rkF, rkS, Option.bind_some, List.length_nil, Nat.add_zero]
  | y :: t, k, r => by
    simp only [List.cons_append, rkF, List.length_cons]
    have e : k + 1 + t.length = k + (t.length + 1) := by omega
    by_cases h0 : y = 0
    · rw [if_pos h0, if_pos h0, rkF_snoc x t (k + 1) r, e]
    · rw [if_neg h0, if_neg h0]
      by_cases h1 : y = r + 1 ∧ decide (k % 2 = 1) = decide (r = 1)
      · rw [if_pos h1, if_pos h1, rkF_snoc x t (k + 1) (r + 1), e]
      · rw [if_neg h1, if_neg h1]; rfl
/-- The first bid of a denomination by a side. -/
def fCond (d : Int) (sd : Int) (dn : Int) (i : Nat) (x : Int) : Bool := isBid x && (decide (dnI x = dn) && decide ((d + (i : Int)) % 2 = sd))
def fstI (d sd dn : Int) : Nat → List Int → Option Nat
  | _, [] => none
  | i, x :: r => bif fCond d sd dn i x then some i else fstI d sd dn (i + 1) r
theorem fstI_snoc (d sd dn : Int) (x : Int) : ∀ (l : List Int) (i : Nat), fstI d sd dn i (l ++ [x]) = (match fstI d sd dn i l with | some j => some j | none => bif fCond d sd dn (i + l.length) x then some (i + l.length) else none)
  | [], i => by simp only [List.nil_append, fstI, List.length_nil, Nat.add_zero]
  | y :: l, i => by
    simp only [List.cons_append, fstI, List.length_cons]
    cases fCond d sd dn i y with
    | true => rfl
    | false =>
      simp only [cond_false]
      rw [fstI_snoc d sd dn x l (i + 1), show i + 1 + l.length = i + (l.length + 1) by omega]
/-- How many calls there may have been. -/
def mxS (s : St) : Int := bif s.b.m then 3 + 9 * (s.b.c - 3) + 1 + 3 * s.risk + s.passes else s.passes
/-- Passes at the end. -/
def tz (l : List Int) : Nat := (l.reverse.takeWhile fun x => decide (x = 0)).length
theorem tz_pass (l : List Int) : tz (l ++ [0]) = tz l + 1 := by simp [tz]
theorem tz_call {c : Int} (h : c ≠ 0) (l : List Int) : tz (l ++ [c]) = 0 := by simp [tz, h]
structure Hist (d : Int) (l : List Int) (s : St) : Prop where
  turn : s.turn = (d + (l.length : Int)) % 4
  nob : s.b.m = false → (∀ c ∈ l, c = 0) ∧ s.passes = (l.length : Int) ∧ s.risk = 0
  bid : s.b.m = true → ∃ a : Nat, a < l.length ∧ l.getD a 0 = s.b.c ∧ isBid s.b.c = true ∧ s.b.s = (d + (a : Int)) % 4 ∧ (∀ j, a < j → j < l.length → isBid (l.getD j 0) = false) ∧ rkF 0 0 (l.drop (a + 1)) = some s.risk
  fst : ∀ sd dn : Nat, sd < 2 → dn < 5 → match fstI d (sd : Int) (dn : Int) 0 l with
    | none => (s.fst (sd * 5 + dn)).m = false
    | some i => (s.fst (sd * 5 + dn)).m = true ∧ (s.fst (sd * 5 + dn)).s = (d + (i : Int)) % 4
  tz : s.passes = (tz l : Int)
  len : (l.length : Int) ≤ mxS s
theorem hist0 {d : Int} (hd : 0 ≤ d ∧ d < 4) : Hist d [] (st0 d) :=
  ⟨by show d = _; simp; omega, fun _ => ⟨(fun c hc => by cases hc), rfl, rfl⟩, (fun h => by cases h), fun sd dn _ _ => by simp only [fstI]; rw [fst0]; rfl, rfl, by show (0 : Int) ≤ 0; omega⟩
theorem getD_app {l : List Int} {c : Int} {j : Nat} (h : j < l.length) : (l ++ [c]).getD j 0 = l.getD j 0 := by
  rw [List.getD_eq_getElem?_getD, List.getD_eq_getElem?_getD, List.getElem?_append_left h]
theorem getD_last (l : List Int) (c : Int) : (l ++ [c]).getD l.length 0 = c := by
  rw [List.getD_eq_getElem?_getD, List.getElem?_append_right (Nat.le_refl _)]; simp
theorem drop_app {l : List Int} {c : Int} {a : Nat} (h : a < l.length) : (l ++ [c]).drop (a + 1) = l.drop (a + 1) ++ [c] := by
  rw [List.drop_append_of_le_length (by omega)]
/-- A call that is no bid: what is told of the bids stays. -/
theorem hist_keep {d c : Int} {l : List Int} {s t : St} (h : Hist d l s) (hc : isBid c = false) (hf : ∀ j, t.fst j = s.fst j) : ∀ sd dn : Nat, sd < 2 → dn < 5 → match fstI d (sd : Int) (dn : Int) 0 (l ++ [c]) with
    | none => (t.fst (sd * 5 + dn)).m = false
    | some i => (t.fst (sd * 5 + dn)).m = true ∧ (t.fst (sd * 5 + dn)).s = (d + (i : Int)) % 4 := by
  intro sd dn h1 h2
  have := h.fst sd dn h1 h2
  rw [fstI_snoc, hf]
  cases he : fstI d (sd : Int) (dn : Int) 0 l with
  | some i => rw [he] at this; exact this
  | none =>
    rw [he] at this
    have e : fCond d (sd : Int) (dn : Int) (0 + l.length) c = false := by unfold fCond; rw [hc]; rfl
    dsimp only
    rw [e]; exact this
theorem hist_aft {d c : Int} {l : List Int} {s : St} (h : Hist d l s) (iv : Inv s) (hp : 0 ≤ s.passes ∧ s.passes ≤ 4) (hc : chk s c = 0) (hc0 : 0 ≤ c) : Hist d (l ++ [c]) (aft s c) := by
  have hlen : ((l ++ [c]).length : Int) = (l.length : Int) + 1 := by simp
  have htn : nx s.turn = (d + ((l.length : Int) + 1)) % 4 := by rw [nx_is iv.g.1, h.turn]; omega
  obtain ⟨ho, h37⟩ := chk_open hc
  have hcl := h.len
  have hr := iv.risk
  have hpass : s.b.m = true → s.passes ≤ 2 := fun hm => by
    unfold ovr at ho; rw [hm] at ho; simp only [cond_true, decide_eq_false_iff_not] at ho; omega
  have hpass0 : s.b.m = false → s.passes ≤ 3 := fun hm => by
    unfold ovr at ho; rw [hm] at ho; simp only [cond_false, decide_eq_false_iff_not] at ho; omega
  have h4 : c = 0 ∨ (c = 1 ∨ c = 2) ∨ isBid c = true := by
    simp only [isBid, Bool.and_eq_true, decide_eq_true_eq]; omega
  rcases h4 with rfl | h4 | h4
  · -- a pass
    rw [aft_pass]
    have e2 : (passA s).passes = s.passes + 1 := wr64 (by omega) (by omega)
    refine ⟨by rw [hlen]; exact htn, fun hm => ?_, fun hm => ?_, hist_keep h rfl (fun _ => rfl), ?_, ?_⟩
    · obtain ⟨q1, q2, q3⟩ := h.nob hm
      refine ⟨fun x hx => ?_, by rw [e2, hlen, q2], q3⟩
      rcases List.mem_append.1 hx with hx | hx
      · exact q1 x hx
      · exact List.mem_singleton.1 hx
    · obtain ⟨a, q1, q2, q3, q4, q5, q6⟩ := h.bid hm
      refine ⟨a, by simp; omega, by rw [getD_app q1]; exact q2, q3, q4, fun j h1 h2 => ?_, ?_⟩
      · simp only [List.length_append, List.length_singleton] at h2
        by_cases hj : j < l.length
        · rw [getD_app hj]; exact q5 j h1 hj
        · rw [show j = l.length by omega, getD_last]; rfl
      · rw [drop_app q1, rkF_snoc, q6]; rfl
    · rw [e2, h.tz, tz_pass]; omega
    · rw [hlen]
      unfold mxS at hcl ⊢
      rw [e2, show (passA s).b = s.b from rfl, show (passA s).risk = s.risk from rfl]
      cases hm : s.b.m with
      | true => rw [hm] at hcl; simp only [cond_true] at hcl ⊢; omega
      | false => rw [hm] at hcl; simp only [cond_false] at hcl ⊢; omega
  · -- a double, a redouble
    rw [aft_dbl h4]
    have hnb : isBid c = false := by rcases h4 with rfl | rfl <;> rfl
    have hm : s.b.m = true ∧ s.risk = c - 1 ∧ (c = 2 ↔ same2 s = true) := by
      unfold chk at hc
      rw [ho, decide_eq_true h37] at hc
      rcases h4 with rfl | rfl
      · cases hbm : s.b.m with
        | false => rw [hbm] at hc; cases hc
        | true =>
          rw [hbm] at hc
          cases hs : same2 s with
          | true => rw [hs] at hc; cases hc
          | false =>
            rw [hs] at hc
            by_cases hk : s.risk = 0
            · exact ⟨rfl, by omega, by simp⟩
            · rw [decide_eq_false hk] at hc; cases hc
      · cases hbm : s.b.m with
        | false => rw [hbm] at hc; cases hc
        | true =>
          rw [hbm] at hc
          cases hs : same2 s with
          | false => rw [hs] at hc; cases hc
          | true =>
            rw [hs] at hc
            by_cases hk : s.risk = 1
            · exact ⟨rfl, by omega, by simp⟩
            · rw [decide_eq_false hk] at hc; cases hc
    obtain ⟨hbm, hrk, hsm⟩ := hm
    have hp2 := hpass hbm
    obtain ⟨a, q1, q2, q3, q4, q5, q6⟩ := h.bid hbm
    refine ⟨by rw [hlen]; exact htn, fun hm => (by rw [show (dblA s c).b = s.b from rfl, hbm] at hm; cases hm), fun _ => ⟨a, by simp; omega, by rw [getD_app q1]; exact q2, q3, q4, fun j h1 h2 => ?_, ?_⟩, hist_keep h hnb (fun _ => rfl), ?_, ?_⟩
    · simp only [List.length_append, List.length_singleton] at h2
      by_cases hj : j < l.length
      · rw [getD_app hj]; exact q5 j h1 hj
      · rw [show j = l.length by omega, getD_last]; exact hnb
    · rw [drop_app q1, rkF_snoc, q6]
      show rkS (0 + (l.drop (a + 1)).length) c s.risk = some c
      have hdl : (l.drop (a + 1)).length = l.length - (a + 1) := List.length_drop
      have hpar : same2 s = true ↔ (0 + (l.drop (a + 1)).length) % 2 = 1 := by
        unfold same2
        rw [decide_eq_true_eq, q4, h.turn, Int.tmod_eq_emod_of_nonneg (by omega), Int.tmod_eq_emod_of_nonneg (by omega), hdl]
        omega
      unfold rkS
      have hc1 : decide ((0 + (l.drop (a + 1)).length) % 2 = 1) = decide (s.risk = 1) := by
        congr 1
        simp only [eq_iff_iff]
        rw [← hpar, ← hsm, hrk]; omega
      rw [if_neg (by omega), if_pos ⟨by omega, hc1⟩]
      congr 1; omega
    · show (0 : Int) = _
      rw [tz_call (by omega)]; rfl
    · rw [hlen]
      unfold mxS at hcl ⊢
      rw [show (dblA s c).b = s.b from rfl, show (dblA s c).risk = c from rfl, show (dblA s c).passes = 0 from rfl, hbm]
      rw [hbm] at hcl
      simp only [cond_true] at hcl ⊢
      omega
  · -- a bid
    obtain ⟨a1, a2, a3, a4, a5⟩ := aft_bid (s := s) h4
    have hb := h4
    simp only [isBid, Bool.and_eq_true, decide_eq_true_eq] at hb
    have hdr := dn_range h4
    have hgt : s.b.m = true → s.b.c < c := fun hm => by
      unfold chk at hc
      rw [ho, decide_eq_true h37, decide_eq_false (show ¬ c = 0 by omega), decide_eq_false (show ¬ c = 1 by omega), decide_eq_false (show ¬ c = 2 by omega)] at hc
      by_cases hk : s.b.c < c
      · exact hk
      · rw [decide_eq_false hk] at hc; cases hc
    refine ⟨by rw [hlen, a2]; exact htn, fun hm => (by rw [a1] at hm; cases hm), fun _ => ⟨l.length, by simp, by rw [getD_last, a1]; rfl, by rw [a1]; exact h4, by rw [a1]; show s.turn = _; exact h.turn, fun j h1 h2 => (by simp at h2; omega), ?_⟩, fun sd dn h1 h2 => ?_, ?_, ?_⟩
    · rw [a3, List.drop_eq_nil_of_le (by simp)]; rfl
    · have hf := h.fst sd dn h1 h2
      rw [fstI_snoc, a5 _ (by omega)]
      have hfc : fCond d (sd : Int) (dn : Int) (0 + l.length) c = decide (sd * 5 + dn = kOf s.turn (dnI c)) := by
        unfold fCond
        rw [h4, Bool.true_and, ← Bool.decide_and]
        congr 1
        simp only [eq_iff_iff]
        unfold kOf
        rw [h.turn, Nat.zero_add]
        omega
      cases he : fstI d (sd : Int) (dn : Int) 0 l with
      | some i =>
        rw [he] at hf
        dsimp only at hf ⊢
        rw [if_neg (fun ⟨_, q⟩ => by rw [hf.1] at q; cases q)]
        exact hf
      | none =>
        rw [he] at hf
        dsimp only at hf ⊢
        rw [hfc]
        by_cases hk : sd * 5 + dn = kOf s.turn (dnI c)
        · rw [decide_eq_true hk, if_pos ⟨hk, hf⟩]
          refine ⟨rfl, ?_⟩
          show s.turn = _
          rw [h.turn, Nat.zero_add]
        · rw [decide_eq_false hk, if_neg (fun ⟨q, _⟩ => hk q)]; exact hf
    · rw [a4, tz_call (by omega)]; rfl
    · rw [hlen]
      unfold mxS at hcl ⊢
      rw [a3, a4, a1]
      show _ ≤ bif true then _ else _
      simp only [cond_true]
      show _ ≤ 3 + 9 * (c - 3) + 1 + 3 * 0 + 0
      cases hm : s.b.m with
      | true =>
        have := hgt hm
        have := hpass hm
        rw [hm] at hcl
        simp only [cond_true] at hcl
        omega
      | false =>
        have := hpass0 hm
        rw [hm] at hcl
        simp only [cond_false] at hcl
        omega
theorem hist {d : Int} {l : List Int} (hk : okA d l = true) (h : (fol d l).e = 0) : Hist d l (fol d l).s := by
  have hd := fol_d h
  have hd0 : 0 ≤ d := by simp only [okA, Bool.and_eq_true, decide_eq_true_eq] at hk; exact hk.1
  have key := right_ind (d := d) hd (P := fun l s => okA d l = true → Hist d l s) (fun _ => hist0 ⟨hd0, by omega⟩) (fun l c hl ih hc hk => by
    have hu := okA_U hk
    have hk1 : okA d l = true := by
      simp only [okA, smallL, Bool.and_eq_true, decide_eq_true_eq, allU_iff, List.length_append, List.length_singleton] at hk ⊢
      exact ⟨hk.1, by omega, fun x hx => hk.2.2 x (List.mem_append_left _ hx)⟩
    have hc0 : 0 ≤ c := by rw [allU_iff] at hu; exact (hu c (by simp)).1
    exact hist_aft (ih hk1) (inv_fol hk1 hl) (passes_ok hd l hl (okA_U hk1)) hc hc0)
  exact key l h hk
/-- A right auction has at most 319 calls. -/
theorem right_len {d : Int} {l : List Int} (hk : okA d l = true) (h : (fol d l).e = 0) : l.length ≤ 319 := by
  have hh := (hist hk h).len
  have iv := inv_fol hk h
  have hp := passes_ok (fol_d h) l h (okA_U hk)
  have hr := iv.risk
  unfold mxS at hh
  cases hm : (fol d l).s.b.m with
  | false => rw [hm] at hh; simp only [cond_false] at hh; omega
  | true =>
    rw [hm] at hh
    simp only [cond_true] at hh
    obtain ⟨⟨b1, _⟩, _⟩ := iv.b hm
    simp only [isBid, Bool.and_eq_true, decide_eq_true_eq] at b1
    -- at most three passes behind a bid
    have hp3 : (fol d l).s.passes ≤ 3 := by
      rcases List.eq_nil_or_concat l with rfl | ⟨q, c, rfl⟩
      · rw [fol_nil (fol_d h)] at hm; cases hm
      · rw [List.concat_eq_append] at *
        have hq := fol_pre h
        have hcs : chk (fol d q).s c = 0 := by
          rw [fol_snoc hq] at h
          by_cases hb : chk (fol d q).s c = 0
          · exact hb
          · rw [decide_eq_false hb] at h; exact absurd h hb
        have hs := (fol_ok_snoc hq hcs).2
        obtain ⟨ho, _⟩ := chk_open hcs
        have hu := okA_U hk
        have hc0 : 0 ≤ c := by rw [allU_iff] at hu; exact (hu c (by simp)).1
        rw [hs] at hm ⊢
        have h4 : c = 0 ∨ (c = 1 ∨ c = 2) ∨ 3 ≤ c := by omega
        rcases h4 with rfl | h4 | h4
        · rw [aft_pass] at hm ⊢
          have hm' : (fol d q).s.b.m = true := hm
          unfold ovr at ho
          rw [hm'] at ho
          simp only [cond_true, decide_eq_false_iff_not] at ho
          have hp0 := passes_ok (fol_d h) q hq (by rw [allU_iff] at hu ⊢; exact fun x hx => hu x (List.mem_append_left _ hx))
          show wr .i64 _ ≤ 3
          rw [wr64 (by omega) (by omega)]; omega
        · rw [aft_dbl h4]; show (0 : Int) ≤ 3; omega
        · rw [(aft_b h4).2.2]; omega
    omega
end Go.Proofs.Ytojlmpcbplepcaa
