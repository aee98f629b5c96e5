/- Chapter 6, plainly: a card that is left, put into a hand; deals turned; what is no partial deal. -/
import Derived.Test.YtpalajfcffdhoaaDm5
namespace Go.Deal
theorem cnt_put {a c : Nat} (hc : c < 52) (h : a.testBit c = false) : cnt (a ||| 2 ^ c) 52 = cnt a 52 + 1 := by
  rw [cnt_or (fun i x y => ?_), cnt_one hc]
  rw [Nat.testBit_two_pow] at y
  have := of_decide_eq_true y
  subst this
  rw [h] at x; cases x
theorem put_lt {a c : Nat} (hc : c < 52) (h : a < 2 ^ 52) : a ||| 2 ^ c < 2 ^ 52 := or_lt h (Nat.pow_lt_pow_right (by decide) hc)
theorem dis_one {b c : Nat} (h : b.testBit c = false) : Dis (2 ^ c) b := fun i x y => by
  rw [Nat.testBit_two_pow] at x
  have := of_decide_eq_true x
  subst this
  rw [h] at y; cases y
theorem lf_bit {a b c d i : Nat} (h : (lf a b c d).testBit i = true) : i < 52 ∧ a.testBit i = false ∧ b.testBit i = false ∧ c.testBit i = false ∧ d.testBit i = false := by
  unfold lf at h
  rw [nd_bit, al_bit, un_bit] at h
  simp only [Bool.and_eq_true, decide_eq_true_eq, Bool.not_eq_true', Bool.or_eq_false_iff] at h
  exact ⟨h.1, h.2.1.1.1, h.2.1.1.2, h.2.1.2, h.2.2⟩
namespace PartD
variable {a b c d i : Nat}
theorem put0 (h : PartD a b c d) (hl : (lf a b c d).testBit i = true) (hr : cnt a 52 < 13) : PartD (a ||| 2 ^ i) b c d := by
  obtain ⟨h0, ha, hb, hc, hd⟩ := lf_bit hl
  have := cnt_put h0 ha
  exact ⟨put_lt h0 h.la, h.lb, h.lc, h.ld, by omega, h.cb, h.cc, h.cd, h.ab.or_l (dis_one hb), h.ac.or_l (dis_one hc), h.ad.or_l (dis_one hd), h.bc, h.bd, h.cd'⟩
theorem put1 (h : PartD a b c d) (hl : (lf a b c d).testBit i = true) (hr : cnt b 52 < 13) : PartD a (b ||| 2 ^ i) c d := by
  obtain ⟨h0, ha, hb, hc, hd⟩ := lf_bit hl
  have := cnt_put h0 hb
  exact ⟨h.la, put_lt h0 h.lb, h.lc, h.ld, h.ca, by omega, h.cc, h.cd, h.ab.or_r (dis_one ha).symm, h.ac, h.ad, h.bc.or_l (dis_one hc), h.bd.or_l (dis_one hd), h.cd'⟩
theorem put2 (h : PartD a b c d) (hl : (lf a b c d).testBit i = true) (hr : cnt c 52 < 13) : PartD a b (c ||| 2 ^ i) d := by
  obtain ⟨h0, ha, hb, hc, hd⟩ := lf_bit hl
  have := cnt_put h0 hc
  exact ⟨h.la, h.lb, put_lt h0 h.lc, h.ld, h.ca, h.cb, by omega, h.cd, h.ab, h.ac.or_r (dis_one ha).symm, h.ad, h.bc.or_r (dis_one hb).symm, h.bd, h.cd'.or_l (dis_one hd)⟩
theorem put3 (h : PartD a b c d) (hl : (lf a b c d).testBit i = true) (hr : cnt d 52 < 13) : PartD a b c (d ||| 2 ^ i) := by
  obtain ⟨h0, ha, hb, hc, hd⟩ := lf_bit hl
  have := cnt_put h0 hd
  exact ⟨h.la, h.lb, h.lc, put_lt h0 h.ld, h.ca, h.cb, h.cc, by omega, h.ab, h.ac, h.ad.or_r (dis_one ha).symm, h.bc, h.bd.or_r (dis_one hb).symm, h.cd'.or_r (dis_one hc).symm⟩
theorem rot (h : PartD a b c d) : PartD d a b c := ⟨h.ld, h.la, h.lb, h.lc, h.cd, h.ca, h.cb, h.cc, h.ad.symm, h.bd.symm, h.cd'.symm, h.ab, h.ac, h.bc⟩
theorem room (h : PartD a b c d) (hl : (lf a b c d).testBit i = true) : 0 < sm (lks a b c d) := by
  obtain ⟨h0, _, _, _, _⟩ := lf_bit hl
  rw [← h.lf_cnt]
  exact cnt_pos h0 hl
/-- Of a card that is left: all seats' completions together. -/
theorem seats (h : PartD a b c d) (hl : (lf a b c d).testBit i = true) :
    (if cnt a 52 < 13 then wy (lks (a ||| 2 ^ i) b c d) else 0) + (if cnt b 52 < 13 then wy (lks a (b ||| 2 ^ i) c d) else 0) + (if cnt c 52 < 13 then wy (lks a b (c ||| 2 ^ i) d) else 0) + (if cnt d 52 < 13 then wy (lks a b c (d ||| 2 ^ i)) else 0) = wy (lks a b c d) := by
  have hr := h.room hl
  obtain ⟨h0, ha, hb, hc, hd⟩ := lf_bit hl
  have e0 := cnt_put h0 ha; have e1 := cnt_put h0 hb; have e2 := cnt_put h0 hc; have e3 := cnt_put h0 hd
  have := h.ca; have := h.cb; have := h.cc; have := h.cd
  unfold lks at hr ⊢
  rw [← wy_sum hr]
  have key : ∀ {x : Nat} {y z : Nat}, cnt x 52 ≤ 13 → (cnt x 52 < 13 → y = z) → (if cnt x 52 < 13 then y else 0) = (if lk x = 0 then 0 else z) := fun {x y z} hx hyz => by
    unfold lk
    by_cases q : cnt x 52 < 13
    · rw [if_pos q, if_neg (by omega), hyz q]
    · rw [if_neg q, if_pos (by omega)]
  rw [key h.ca fun _ => by rw [show lk (a ||| 2 ^ i) = lk a - 1 by unfold lk; omega], key h.cb fun _ => by rw [show lk (b ||| 2 ^ i) = lk b - 1 by unfold lk; omega],
    key h.cc fun _ => by rw [show lk (c ||| 2 ^ i) = lk c - 1 by unfold lk; omega], key h.cd fun _ => by rw [show lk (d ||| 2 ^ i) = lk d - 1 by unfold lk; omega]]
end PartD
theorem not_full {a b c d i : Nat} (h : a.testBit i = false) (hi : i < 52) (hc : 13 ≤ cnt a 52) : ¬ PartD (a ||| 2 ^ i) b c d := fun p => by
  have := cnt_put hi h
  have := p.ca
  omega
theorem wy_lk (a b c d : Nat) : wy (lks a b c d) ≤ 2 ^ 117 := (wy_four (by unfold lk; omega) (by unfold lk; omega) (by unfold lk; omega) (by unfold lk; omega)).1
end Go.Deal
