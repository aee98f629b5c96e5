/- Chapter 10: a course without irregular calls is an auction: the contracts agree. -/
import Derived.Test.YtojlmpcbplepcaaLw
import Derived.Test.YtojlmpcbplepcaaTu3
namespace Go.Proofs.Ytojlmpcbplepcaa
open Go Go.Eng
theorem rk_mx : ∀ (l : List Int) (k : Nat) (r r' : Int), 0 ≤ r → rkF k r l = some r' → mxL l r = r'
  | [], _, r, r', _, h => by simp only [rkF, Option.some.injEq] at h; exact h
  | x :: l, k, r, r', hr, h => by
    unfold rkF at h
    unfold mxL
    by_cases h0 : x = 0
    · rw [if_pos h0] at h
      have e : foldI maxI r [x] = r := by
        show maxI r x = r
        unfold maxI; rw [h0, decide_eq_false (show ¬ (0 : Int) > r by omega)]; rfl
      rw [e]; exact rk_mx l (k + 1) r r' hr h
    · rw [if_neg h0] at h
      by_cases h1 : x = r + 1 ∧ decide (k % 2 = 1) = decide (r = 1)
      · rw [if_pos h1] at h
        have e : foldI maxI r [x] = r + 1 := by
          show maxI r x = r + 1
          unfold maxI; rw [h1.1, decide_eq_true (show r + 1 > r by omega)]; rfl
        rw [e]; exact rk_mx l (k + 1) (r + 1) r' (by omega) h
      · rw [if_neg h1] at h; cases h
theorem last_is : ∀ (n : Nat) (xs : List Int), xs.length = n → ∀ a : Nat, a < xs.length → isBid (xs.getD a 0) = true → (∀ j, a < j → j < xs.length → isBid (xs.getD j 0) = false) → lastI xs = (a : Int)
  | 0, xs, hn, a, ha, _, _ => by omega
  | n + 1, xs, hn, a, ha, hb, hj => by
    obtain ⟨q, c, rfl⟩ : ∃ q c, xs = q ++ [c] := ⟨xs.dropLast, xs.getLast (by intro e; rw [e] at hn; cases hn), (List.dropLast_concat_getLast _).symm⟩
    have hq : q.length = n := by simpa using hn
    rw [List.length_append, List.length_singleton] at ha hj
    rw [lastI_snoc]
    cases hc : isBid c with
    | true =>
      rw [cond_true]
      by_cases e : a = q.length
      · rw [e]
      · have := hj q.length (by omega) (by omega)
        rw [getD_last, hc] at this; cases this
    | false =>
      rw [cond_false]
      have hne : a ≠ q.length := fun e => by rw [e, getD_last, hc] at hb; cases hb
      refine last_is n q hq a (by omega) (by rw [getD_app (by omega)] at hb; exact hb) fun j h1 h2 => ?_
      have := hj j h1 (by omega)
      rw [getD_app h2] at this; exact this
def goodB (xs : List Int) (dn : Int) (t : Nat) : Bool := isBid (xs.getD t 0) && decide (dnZ (xs.getD t 0) = dn)
theorem fdB_spec (xs : List Int) (dn : Int) (z : Nat) : ∀ (n i j : Nat), fdB xs dn z n i = some j → i ≤ j ∧ j ≤ z ∧ (j - i) % 2 = 0 ∧ goodB xs dn j = true ∧ ∀ t, i ≤ t → t < j → (t - i) % 2 = 0 → goodB xs dn t = false
  | 0, i, j, h => by cases h
  | n + 1, i, j, h => by
    unfold fdB at h
    by_cases hz : i ≤ z
    · rw [decide_eq_true hz, cond_true] at h
      cases hg : goodB xs dn i with
      | true =>
        unfold goodB at hg
        rw [hg, cond_true] at h
        cases h
        exact ⟨Nat.le_refl _, hz, by simp, hg, fun t h1 h2 => by omega⟩
      | false =>
        have hg2 := hg
        unfold goodB at hg
        rw [hg, cond_false] at h
        obtain ⟨h1, h2, h3, h4, h5⟩ := fdB_spec xs dn z n (i + 2) j h
        refine ⟨by omega, h2, by omega, h4, fun t t1 t2 t3 => ?_⟩
        by_cases e : t = i
        · rw [e]; exact hg2
        · exact h5 t (by omega) t2 (by omega)
    · rw [decide_eq_false hz, cond_false] at h; cases h
theorem fstI_spec (d sd dn : Int) : ∀ (l : List Int) (i : Nat), match fstI d sd dn i l with
    | none => ∀ t, t < l.length → fCond d sd dn (i + t) (l.getD t 0) = false
    | some j => i ≤ j ∧ j < i + l.length ∧ fCond d sd dn j (l.getD (j - i) 0) = true ∧ ∀ t, t < j - i → fCond d sd dn (i + t) (l.getD t 0) = false
  | [], i => by simp only [fstI]; intro t ht; cases ht
  | x :: l, i => by
    have ih := fstI_spec d sd dn l (i + 1)
    unfold fstI
    cases hf : fCond d sd dn i x with
    | true =>
      rw [cond_true]
      refine ⟨Nat.le_refl _, by rw [List.length_cons]; omega, by rw [Nat.sub_self]; exact hf, fun t ht => by omega⟩
    | false =>
      rw [cond_false]
      cases hs : fstI d sd dn (i + 1) l with
      | none =>
        rw [hs] at ih
        intro t ht
        rw [List.length_cons] at ht
        cases t with
        | zero => exact hf
        | succ t => rw [show i + (t + 1) = i + 1 + t by omega]; exact ih t (by omega)
      | some j =>
        rw [hs] at ih
        obtain ⟨h1, h2, h3, h4⟩ := ih
        refine ⟨by omega, by rw [List.length_cons]; omega, ?_, fun t ht => ?_⟩
        · rw [show j - i = (j - (i + 1)) + 1 by omega]; exact h3
        · cases t with
          | zero => exact hf
          | succ t => rw [show i + (t + 1) = i + 1 + t by omega]; exact h4 t (by omega)
/-- The contract of a plain course. -/
theorem pl_con {d : Int} (hd : 0 ≤ d ∧ d ≤ 3) {xs : List Int} (h : GC d xs []) (hl : xs.length ≤ 100000) (hu : allU xs = true) (hb : (fol d xs).s.b.m = true) :
    conQ (crs0 d) xs = ⟨(fol d xs).s.b.l, (fol d xs).s.b.d, (fol d xs).s.risk, ((fol d xs).s.fst (kOf (fol d xs).s.b.s (fol d xs).s.b.d)).s⟩ ∧ 0 < (fol d xs).s.b.l := by
  obtain ⟨he, sm⟩ := pl_sim hd h rfl hl
  have hk : okA d xs = true := okA_of hd.1 (by omega) hu
  have hi := hist hk he
  have iv := inv_fol hk he
  have g := h.gi hd (by omega)
  obtain ⟨a, a1, a2, a3, a4, a5, a6⟩ := hi.bid hb
  obtain ⟨⟨g1, g2, g3, g4⟩, _⟩ := iv.b hb
  have hhas : hasB xs = true := by rw [← g.m, ← sm.b]; exact hb
  have hlb : lbI xs = (fol d xs).s.b.c := by rw [← g.c, ← sm.b]
  have hla : lastI xs = (a : Int) := last_is xs.length xs rfl a a1 (by rw [a2]; exact a3) a5
  have hdn := dn_range a3
  generalize hS : (fol d xs).s = S at *
  have hz : dnZ S.b.c = S.b.d := by unfold dnZ; rw [a3, g3]; rfl
  have hlv : lvZ S.b.c = S.b.l := by unfold lvZ; rw [a3, g2]; rfl
  refine ⟨?_, by rw [g2]; have := (lv_pos a3).1; omega⟩
  unfold conQ
  rw [hhas, hlb, hla, Int.toNat_natCast, hz, hlv, rk_mx _ 0 0 _ (by omega) a6, cond_true]
  obtain ⟨j, hj, hja⟩ := fdB_some xs S.b.d a (by rw [a2]; exact a3) (by rw [a2]; exact hz) (a + 1) (a % 2) (by omega) (by omega) (by omega)
  obtain ⟨_, _, p3, p4, p5⟩ := fdB_spec xs S.b.d a (a + 1) (a % 2) j hj
  rw [hj]
  have hf := hi.fst (S.b.s.toNat % 2) S.b.d.toNat (by omega) (by rw [← g3] at hdn; omega)
  have hsp := fstI_spec d ((S.b.s.toNat % 2 : Nat) : Int) ((S.b.d.toNat : Nat) : Int) xs 0
  have edn : ((S.b.d.toNat : Nat) : Int) = S.b.d := by rw [← g3] at hdn; omega
  have esd : ((S.b.s.toNat % 2 : Nat) : Int) = (d + (a : Int)) % 2 := by omega
  have good : ∀ t : Nat, t % 2 = a % 2 → fCond d ((S.b.s.toNat % 2 : Nat) : Int) ((S.b.d.toNat : Nat) : Int) t (xs.getD t 0) = goodB xs S.b.d t := fun t ht => by
    unfold fCond goodB
    rw [edn, esd, decide_eq_true (show (d + (t : Int)) % 2 = (d + (a : Int)) % 2 by omega), Bool.and_true]
    cases hbt : isBid (xs.getD t 0) with
    | false => rfl
    | true => unfold dnZ; rw [hbt]; rfl
  have par : ∀ t : Nat, fCond d ((S.b.s.toNat % 2 : Nat) : Int) ((S.b.d.toNat : Nat) : Int) t (xs.getD t 0) = true → t % 2 = a % 2 := fun t ht => by
    unfold fCond at ht
    simp only [Bool.and_eq_true, decide_eq_true_eq] at ht
    have := ht.2.2
    rw [esd] at this
    omega
  cases hs : fstI d ((S.b.s.toNat % 2 : Nat) : Int) ((S.b.d.toNat : Nat) : Int) 0 xs with
  | none =>
    rw [hs] at hsp
    have := hsp j (by omega)
    rw [Nat.zero_add, good j (by omega), p4] at this
    cases this
  | some i =>
    rw [hs] at hsp hf
    obtain ⟨_, q2, q3, q4⟩ := hsp
    rw [Nat.sub_zero] at q3
    have hpi := par i q3
    have hij : i = j := by
      rcases Nat.lt_trichotomy i j with hlt | heq | hgt
      · have := p5 i (by omega) hlt (by omega)
        rw [good i hpi, this] at q3; cases q3
      · exact heq
      · have := q4 j (by omega)
        rw [Nat.zero_add, good j (by omega), p4] at this; cases this
    obtain ⟨_, hf2⟩ := hf
    show Q4.mk S.b.l S.b.d S.risk (mkI (crs0 d).d (j : Int)) = _
    rw [show (crs0 d).d = d from rfl, mk_is hd (by omega)]
    unfold kOf
    rw [hf2, hij]
end Go.Proofs.Ytojlmpcbplepcaa
