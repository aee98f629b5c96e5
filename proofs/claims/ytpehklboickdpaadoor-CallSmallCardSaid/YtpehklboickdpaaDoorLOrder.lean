/- Chapter 8: CallOrder answers true, for any two numbers. -/
import Derived.Test.YtpehklboickdpaaDoorFns
namespace Go.Proofs.YtpehklboickdpaaDoor
open Go Go.Eng
def fV : Option V := some (.bool false)
def loT (c : Int) : Option V := bif decide (bidV (pl c) (pd c) = c) then bif decide (bidE (pl c) (pd c) = 0) then bif decide (1 ≤ pl c) then bif decide (pl c ≤ 7) then some (.bool (decide (pd c ≤ 4))) else fV else fV else fV else fV
def loC (c d : Int) : Option V := bif decide (pl d < pl c) then bif (bif decide (d < c) then true else false) then loT c else fV else
  bif decide (pl c = pl d) then bif (bif decide (d < c) then decide (pd d < pd c) else !decide (pd d < pd c)) then loT c else fV else bif (bif decide (d < c) then false else true) then loT c else fV
def loR (c d : Int) : Option V := bif !isB c then some (.bool true) else bif !isB d then some (.bool true) else loC c d
def loM (c d : Int) : Option V := bif !isB c then bif !decide (wr .u8 (pl c + pd c) = 0) then fV else loR c d else loR c d
theorem lo_all (c d : Int) : lawG tabP plainL 4 Tryd.f4 [.int .u8 c, .int .u8 d] = cond (pB (textsL = textsL))
    (bif decide (3 ≤ c) then bif !(bif isB c then decide (c ≤ 37) else !decide (c ≤ 37)) then fV else loM c d else bif !(bif isB c then false else true) then fV else loM c d) none := by kernel_rfl
theorem wr8 {x : Int} (h1 : 0 ≤ x) (h2 : x < 256) : wr .u8 x = x := by
  simp only [wr]; omega
theorem bid_is {c : Int} (h : isB c = true) : 3 ≤ c ∧ c ≤ 37 ∧ pl c = (c - 3) / 5 + 1 ∧ pd c = (c - 3) % 5 := by
  have hb : 3 ≤ c ∧ c ≤ 37 := by
    unfold isB at h
    cases h1 : decide (c < 3) with
    | true => rw [h1] at h; cases h
    | false => rw [h1, cond_false] at h; simp only [decide_eq_true_eq, decide_eq_false_iff_not] at h h1; omega
  have e : (c - 3).tdiv 5 = (c - 3) / 5 := Int.tdiv_eq_ediv_of_nonneg (by omega)
  have e2 : (c - 3).tmod 5 = (c - 3) % 5 := Int.tmod_eq_emod_of_nonneg (by omega)
  refine ⟨hb.1, hb.2, ?_, ?_⟩
  · unfold pl
    rw [h, cond_true, wr8 (x := c - 3) (by omega) (by omega), e, wr8 (x := (c - 3) / 5) (by omega) (by omega), wr8 (by omega) (by omega)]
  · unfold pd
    rw [h, cond_true, wr8 (x := c - 3) (by omega) (by omega), e2]
theorem isB_iff {c : Int} : isB c = true ↔ 3 ≤ c ∧ c ≤ 37 := by
  unfold isB
  by_cases h : c < 3
  · rw [decide_eq_true h, cond_true]; simp; omega
  · rw [decide_eq_false h, cond_false, decide_eq_true_eq]; omega
theorem bid_bid {l d : Int} (h1 : 1 ≤ l) (h2 : l ≤ 7) (h3 : 0 ≤ d) (h4 : d < 5) : bidV l d = 3 + 5 * (l - 1) + d ∧ bidE l d = 0 := by
  have hb : badB l d = false := by
    unfold badB
    rw [decide_eq_false (by omega), decide_eq_false (by omega), decide_eq_false (by omega)]; rfl
  unfold bidV bidE
  rw [hb, cond_false, cond_false, wr8 (x := l - 1) (by omega) (by omega), wr8 (x := 5 * (l - 1)) (by omega) (by omega), wr8 (x := 3 + 5 * (l - 1)) (by omega) (by omega), wr8 (by omega) (by omega)]
  exact ⟨rfl, rfl⟩
theorem loT_true {c : Int} (h : isB c = true) : loT c = some (.bool true) := by
  obtain ⟨h1, h2, h3, h4⟩ := bid_is h
  obtain ⟨q1, q2⟩ := bid_bid (l := pl c) (d := pd c) (by omega) (by omega) (by omega) (by omega)
  unfold loT
  rw [q1, q2, decide_eq_true (show 3 + 5 * (pl c - 1) + pd c = c by omega), decide_eq_true rfl, decide_eq_true (show 1 ≤ pl c by omega), decide_eq_true (show pl c ≤ 7 by omega), decide_eq_true (show pd c ≤ 4 by omega)]
  rfl
theorem loR_true (c d : Int) : loR c d = some (.bool true) := by
  unfold loR
  cases hc : isB c with
  | false => rfl
  | true =>
    cases hd : isB d with
    | false => rfl
    | true =>
      obtain ⟨h1, h2, h3, h4⟩ := bid_is hc
      obtain ⟨k1, k2, k3, k4⟩ := bid_is hd
      simp only [Bool.not_true, cond_false]
      unfold loC
      rw [loT_true hc]
      by_cases a : pl d < pl c
      · rw [decide_eq_true a, decide_eq_true (show d < c by omega)]; rfl
      · rw [decide_eq_false a, cond_false]
        by_cases b : pl c = pl d
        · rw [decide_eq_true b, cond_true]
          by_cases e : d < c
          · rw [decide_eq_true e, decide_eq_true (show pd d < pd c by omega)]; rfl
          · rw [decide_eq_false e, decide_eq_false (show ¬ pd d < pd c by omega)]; rfl
        · rw [decide_eq_false b, decide_eq_false (show ¬ d < c by omega)]; rfl
theorem lo_true (c d : Int) : lawG tabP plainL 4 Tryd.f4 [.int .u8 c, .int .u8 d] = some (.bool true) := by
  rw [lo_all, pB_iff.2 rfl, cond_true]
  have hM : loM c d = some (.bool true) := by
    unfold loM
    rw [loR_true]
    cases h : isB c with
    | true => rfl
    | false => simp only [pl, pd, h, cond_false]; rfl
  rw [hM]
  by_cases h : 3 ≤ c
  · rw [decide_eq_true h, cond_true]
    by_cases h2 : c ≤ 37
    · rw [isB_iff.2 ⟨h, h2⟩, decide_eq_true h2]; rfl
    · have : isB c = false := by
        cases hb : isB c with
        | false => rfl
        | true => exact absurd (isB_iff.1 hb).2 h2
      rw [this, decide_eq_false h2]; rfl
  · have : isB c = false := by
      cases hb : isB c with
      | false => rfl
      | true => exact absurd (isB_iff.1 hb).1 h
    rw [decide_eq_false h, this]; rfl
end Go.Proofs.YtpehklboickdpaaDoor
