/- Chapter 4: CardLess's loops. -/
import Derived.Test.YtbocdcnkmcejjaaDoorListT
namespace Go.Proofs.YtbocdcnkmcejjaaDoor
open Go Go.Eng
abbrev RT := Option (XE × List PV × List (Code × Code))
def clR (m s r c : Int) (b : Bool) (g : List Int) : RT := bif !decide (suitI c = s) then bif decide (c < 0) then none else bif decide (c < 0) then none else
    bif !decide (bitI r c = bitI m c) then some (.ret, [.i m, .i s, .b false, .i r, .l g], []) else some (.normal, [.i m, .i s, .b b, .i r, .i (wr .u8 (c + 1)), .l g], [])
  else some (.normal, [.i m, .i s, .b b, .i r, .i (wr .u8 (c + 1)), .l g], [])
theorem cl_round2 (rd : Option Nat) (m s r c : Int) (b : Bool) (g : List Int) : roundT Tryd.prog (orcA tabL plainL) noLoops 100 1 rd 5 clLp2 clT2 clX1 [.i m, .i s, .b b, .i r, .i c, .l g] =
    bif decide (c < 52) then bif decide (suitI c = s) then bif decide (c < 0) then none else bif decide (bitI r c = 1) then some (.ret, [.i m, .i s, .b false, .i r, .l g], []) else clR m s r c b g else clR m s r c b g
    else some (.exit 2, [.i m, .i s, .b b, .i r, .l g], []) := by kernel_rfl
theorem suit_nat {t : Nat} (ht : t < 52) : suitI (t : Int) = ((t / 13 : Nat) : Int) := by
  unfold suitI
  rw [decide_eq_true (show (t : Int) < 52 by omega), cond_true, Int.tdiv_eq_ediv_of_nonneg (by omega), wr8 (by omega) (by omega)]
  rfl
/-- What the first loop keeps: outside the suit the set is as it was. -/
def keepS (m r s : Nat) : Prop := ∀ i, ¬ (13 * s ≤ i ∧ i < 13 * s + 13) → r.testBit i = m.testBit i
theorem h_zero {r s : Nat} (h : hN r s = 0) : ∀ i, 13 * s ≤ i ∧ i < 13 * s + 13 → r.testBit i = false := fun i hi => by
  have := h_bit (r := r) (s := s) (i := i)
  rw [h, Nat.zero_testBit, decide_eq_true hi, Bool.and_true] at this
  exact this.symm
theorem cl_loop1 (rd : Option Nat) (m s : Nat) (b : Bool) (g : List Int) (hs : s ≤ 3) (f : Nat) (hf : f < 4503599627370496) (hf0 : hN f s = 0) (hfk : keepS m f s) : ∀ x : Nat × Nat,
    (x.1 < 4503599627370496 ∧ keepS m x.1 s ∧ hN x.1 s < 2 ^ x.2 ∧ x.2 ≤ 52) →
    SimC Tryd.prog 1 rd (.loop clLp1) (clT1.at [.i (m : Int), .i (s : Int), .b b, .i (x.1 : Int), .i (x.2 : Int), .l g]) (.exit 0) (clX1.at [.i (m : Int), .i (s : Int), .b b, .i (f : Int), .l g]) := by
  refine loop_of_rounds (C := orcA tabL plainL) (L := noLoops) (N := 100) (me := 5) (T := clT1) (T' := clX1) (orcA_ok tabL_ok plainL_ok) mixed noLoops_ok (by kernel_rfl) (by kernel_rfl) (X := Nat × Nat)
    (fun x => [.i (m : Int), .i (s : Int), .b b, .i (x.1 : Int), .i (x.2 : Int), .l g]) (fun x => x.1 < 4503599627370496 ∧ keepS m x.1 s ∧ hN x.1 s < 2 ^ x.2 ∧ x.2 ≤ 52) (fun x => x.2)
    (fun _ => (.exit 0, [.i (m : Int), .i (s : Int), .b b, .i (f : Int), .l g])) ?_
  rintro ⟨r, l⟩ ⟨hr, hk, hh, hl⟩
  dsimp only at hr hk hh hl ⊢
  have h := cl_round1 rd m s r l b g
  rw [decide_eq_true (show 0 ≤ (r : Int) ∧ (r : Int) < 4503599627370496 ∧ 0 ≤ (s : Int) ∧ (s : Int) ≤ 3 by omega), cond_true, show ((r : Int)).toNat = r by omega, show ((s : Int)).toNat = s by omega] at h
  by_cases h0 : hN r s = 0
  · rw [h0] at h
    have hrf : r = f := Nat.eq_of_testBit_eq fun i => by
      by_cases hi : 13 * s ≤ i ∧ i < 13 * s + 13
      · rw [h_zero h0 i hi, h_zero hf0 i hi]
      · rw [hk i hi, hfk i hi]
    subst hrf
    exact ⟨_, _, _, h, codes0, .inr ⟨by simp, rfl⟩⟩
  · have hz : (hN r s == 0) = false := by simpa using h0
    obtain ⟨t1, t2⟩ := top_spec hr h0
    have tl := top_lt (s := s) hr
    have tb := t1
    rw [h_bit, Bool.and_eq_true, decide_eq_true_eq] at tb
    have hlast : topN r s < l := by
      by_cases hx : topN r s < l
      · exact hx
      · have hp : 2 ^ l ≤ 2 ^ topN r s := Nat.pow_le_pow_right (by decide) (by omega)
        rw [Nat.testBit_lt_two_pow (Nat.lt_of_lt_of_le hh hp)] at t1
        cases t1
    generalize topN r s = t at *
    obtain ⟨r', e1, e2, e3⟩ := clear_nat (r := r) (t := t) hr tl
    rw [hz, decide_eq_false (show ¬ (l : Int) ≤ (t : Int) by omega), suit_nat tl, decide_eq_true (show ((t / 13 : Nat) : Int) = (s : Int) by omega), bit_nat (by omega) (by omega), tb.1, e1] at h
    refine ⟨_, _, _, h, codes0, .inl ⟨rfl, (r', t), rfl, ⟨e2, fun i hi => ?_, ?_, by dsimp only; omega⟩, by dsimp only; omega, rfl⟩⟩
    · rw [e3 i, hk i hi, decide_eq_false (fun e => hi (by omega))]; simp
    · refine Nat.lt_pow_two_of_testBit _ fun i hi => ?_
      rw [h_bit, e3 i]
      by_cases hit : t = i
      · rw [decide_eq_true hit]; simp
      · have : (hN r s).testBit i = false := Nat.testBit_lt_two_pow (Nat.lt_of_lt_of_le t2 (Nat.pow_le_pow_right (by decide) (by dsimp only at hi; omega)))
        rw [h_bit] at this
        rw [decide_eq_false hit, Bool.not_false, Bool.and_true, this]
theorem cl_loop2 (rd : Option Nat) (m s r : Nat) (b : Bool) (g : List Int) (hm : m < 4503599627370496) (hr : r < 4503599627370496) (h0 : hN r s = 0) (hk : keepS m r s) : ∀ c : Nat, c ≤ 52 →
    SimC Tryd.prog 1 rd (.loop clLp2) (clT2.at [.i (m : Int), .i (s : Int), .b b, .i (r : Int), .i (c : Int), .l g]) (.exit 2) (clX1.at [.i (m : Int), .i (s : Int), .b b, .i (r : Int), .l g]) := by
  refine loop_of_rounds (C := orcA tabL plainL) (L := noLoops) (N := 100) (me := 5) (T := clT2) (T' := clX1) (orcA_ok tabL_ok plainL_ok) mixed noLoops_ok (by kernel_rfl) (by kernel_rfl) (X := Nat)
    (fun c => [.i (m : Int), .i (s : Int), .b b, .i (r : Int), .i (c : Int), .l g]) (fun c => c ≤ 52) (fun c => 52 - c)
    (fun _ => (.exit 2, [.i (m : Int), .i (s : Int), .b b, .i (r : Int), .l g])) ?_
  intro c hc
  have h := cl_round2 rd m s r c b g
  by_cases hlt : c < 52
  · have w1 : wr .u8 ((c : Int) + 1) = ((c + 1 : Nat) : Int) := by rw [wr8 (by omega) (by omega)]; omega
    have b1 := bit_nat (r := r) (c := c) (by omega) (by omega)
    have b2 := bit_nat (r := m) (c := c) (by omega) (by omega)
    unfold clR at h
    rw [decide_eq_true (show (c : Int) < 52 by omega), suit_nat hlt, decide_eq_false (show ¬ (c : Int) < 0 by omega), b1, b2, w1] at h
    have hgo : roundT Tryd.prog (orcA tabL plainL) noLoops 100 1 rd 5 clLp2 clT2 clX1 [.i (m : Int), .i (s : Int), .b b, .i (r : Int), .i (c : Int), .l g] = some (.normal, [.i (m : Int), .i (s : Int), .b b, .i (r : Int), .i ((c + 1 : Nat) : Int), .l g], []) := by
      by_cases hsc : ((c / 13 : Nat) : Int) = (s : Int)
      · have hbit := h_zero h0 c (by omega)
        rw [h, decide_eq_true hsc, hbit]; rfl
      · have hbit := hk c (by omega)
        rw [h, decide_eq_false hsc, hbit]
        simp
    exact ⟨_, _, _, hgo, codes0, .inl ⟨rfl, c + 1, rfl, by omega, by omega, rfl⟩⟩
  · have : c = 52 := by omega
    subst this
    rw [decide_eq_false (show ¬ ((52 : Nat) : Int) < 52 by omega), cond_false] at h
    exact ⟨_, _, _, h, codes0, .inr ⟨by simp, rfl⟩⟩
end Go.Proofs.YtbocdcnkmcejjaaDoor
