/- Chapter 8: CallCheapest answers true, for any call and any number. -/
import Derived.Test.YtpehklboickdpaaDoorLCheap0
namespace Go.Proofs.YtpehklboickdpaaDoor
open Go Go.Eng
theorem wr64c {x : Int} (h1 : -9223372036854775808 ≤ x) (h2 : x < 9223372036854775808) : wr .i64 x = x := by
  simp only [wr, sgn]
  cases h : decide (9223372036854775808 ≤ x % 18446744073709551616) with
  | true => simp only [decide_eq_true_eq] at h; simp only [cond_true]; omega
  | false => simp only [decide_eq_false_iff_not] at h; simp only [cond_false]; omega
theorem ch_spec {o d : Int} (h1 : o ≤ 37) (h2 : 0 ≤ d) (h3 : d ≤ 4) : (chE o d = 6 ∧ chV o d = 0 ∧ 33 + d ≤ o) ∨
    (chE o d = 0 ∧ o < chV o d ∧ chV o d ≤ 33 + d ∧ (chV o d - 3 - d) % 5 = 0 ∧ 3 + d ≤ chV o d ∧ (chV o d = 3 + d ∨ chV o d - 5 ≤ o)) := by
  have b : ∀ k : Int, 1 ≤ k → k ≤ 7 → bidV k d = 3 + 5 * (k - 1) + d := fun k q1 q2 => (bid_bid q1 q2 h2 (by omega)).1
  unfold chV chE
  rw [decide_eq_true h1, decide_eq_false (show ¬ 5 ≤ d by omega), b 1 (by omega) (by omega), b 2 (by omega) (by omega), b 3 (by omega) (by omega), b 4 (by omega) (by omega), b 5 (by omega) (by omega), b 6 (by omega) (by omega), b 7 (by omega) (by omega)]
  simp only [Bool.not_true, cond_false]
  by_cases q1 : o < 3 + 5 * (1 - 1) + d
  · simp only [decide_eq_true q1, cond_true, true_and]; omega
  · simp only [decide_eq_false q1, cond_false]
    by_cases q2 : o < 3 + 5 * (2 - 1) + d
    · simp only [decide_eq_true q2, cond_true, true_and]; omega
    · simp only [decide_eq_false q2, cond_false]
      by_cases q3 : o < 3 + 5 * (3 - 1) + d
      · simp only [decide_eq_true q3, cond_true, true_and]; omega
      · simp only [decide_eq_false q3, cond_false]
        by_cases q4 : o < 3 + 5 * (4 - 1) + d
        · simp only [decide_eq_true q4, cond_true, true_and]; omega
        · simp only [decide_eq_false q4, cond_false]
          by_cases q5 : o < 3 + 5 * (5 - 1) + d
          · simp only [decide_eq_true q5, cond_true, true_and]; omega
          · simp only [decide_eq_false q5, cond_false]
            by_cases q6 : o < 3 + 5 * (6 - 1) + d
            · simp only [decide_eq_true q6, cond_true, true_and]; omega
            · simp only [decide_eq_false q6, cond_false]
              by_cases q7 : o < 3 + 5 * (7 - 1) + d
              · simp only [decide_eq_true q7, cond_true, true_and]; omega
              · simp only [decide_eq_false q7, cond_false, true_and]
                omega
theorem nx_eq {o : Int} (h0 : 0 ≤ o) (h1 : o ≤ 37) : 3 ≤ nx o ∧ o + 1 ≤ nx o ∧ (nx o = 3 ∨ nx o = o + 1) := by
  have : nx o = max o 2 + 1 := by
    unfold nx
    simp only [foldI, maxI]
    by_cases h : o < 2
    · simp only [decide_eq_true h, cond_true]; rw [wr8 (by omega) (by omega)]; omega
    · simp only [decide_eq_false h, cond_false]; rw [wr8 (by omega) (by omega)]; omega
  omega
theorem ch_is {o d : Int} (h0 : 0 ≤ o) (h1 : o ≤ 37) (h2 : 0 ≤ d) (h3 : d ≤ 4) (he : chE o d = 0) : isB (chV o d) = true ∧ pd (chV o d) = d ∧ pl (chV o d) = (chV o d - 3) / 5 + 1 := by
  rcases ch_spec h1 h2 h3 with ⟨q, _⟩ | ⟨_, a1, a2, a3, a4, _⟩
  · rw [q] at he; cases he
  · have hb : isB (chV o d) = true := isB_iff.2 ⟨by omega, by omega⟩
    obtain ⟨_, _, b1, b2⟩ := bid_is hb
    exact ⟨hb, by rw [b2]; omega, b1⟩
/-- How many denominations there are among the first ones. -/
def cn (o : Int) : Nat → Int
  | 0 => 0
  | n + 1 => cn o n + if 33 + (n : Int) ≤ o then 0 else 1
theorem cn_le (o : Int) : ∀ n : Nat, 0 ≤ cn o n ∧ cn o n ≤ n
  | 0 => ⟨by simp [cn], by simp [cn]⟩
  | n + 1 => by
    have := cn_le o n
    simp only [cn]
    split <;> omega
def cnt5 (o : Int) : Int := foldI minI 5 [wr .i64 (38 - wr .i64 (nx o))]
theorem cn_five {o : Int} (h0 : 0 ≤ o) (h1 : o ≤ 37) : cn o 5 = cnt5 o := by
  obtain ⟨n1, n2, n3⟩ := nx_eq h0 h1
  have e : cnt5 o = min 5 (38 - nx o) := by
    unfold cnt5
    rw [wr64c (x := nx o) (by omega) (by omega), wr64c (by omega) (by omega)]
    simp only [foldI, minI]
    by_cases h : 38 - nx o < 5
    · rw [decide_eq_true h, cond_true]; omega
    · rw [decide_eq_false h, cond_false]; omega
  rw [e]
  simp only [cn]
  split <;> split <;> split <;> split <;> split <;> omega
theorem codes0c : codesOk [] := fun _ h => by cases h
theorem cc_loop (rd : Option Nat) (o b : Int) (r : Bool) (ts : List ByteArray) (h0 : 0 ≤ o) (h1 : o ≤ 37) : ∀ d : Nat, d ≤ 5 →
    SimC Tryd.prog 1 rd (.loop ccLp) (ccT.at (ccP o b r (nx o) (cn o d) d ts)) (.exit 0) (ccX.at (ccQ o b r (nx o) (cnt5 o) ts)) := by
  refine loop_of_rounds (C := orcA tabJ plainL) (L := noLoops) (N := 100) (me := 5) (T := ccT) (T' := ccX) (orcA_ok tabJ_ok plainL_ok) mixed noLoops_ok (by kernel_rfl) (by kernel_rfl) (X := Nat)
    (fun d => ccP o b r (nx o) (cn o d) d ts) (fun d => d ≤ 5) (fun d => 5 - d) (fun _ => (.exit 0, ccQ o b r (nx o) (cnt5 o) ts)) ?_
  intro d hd
  have h := cc_round rd o b r (nx o) (cn o d) d ts
  have hc := cn_le o d
  obtain ⟨n1, n2, n3⟩ := nx_eq h0 h1
  by_cases hlt : d < 5
  · have w1 : wr .u8 ((d : Int) + 1) = ((d + 1 : Nat) : Int) := by rw [wr8 (by omega) (by omega)]; omega
    have w2 : wr .i64 (cn o d + 1) = cn o d + 1 := wr64c (by omega) (by omega)
    have w3 : wr .u8 (nx o + 5) = nx o + 5 := wr8 (by omega) (by omega)
    rw [decide_eq_true (show (d : Int) < 5 by omega), cond_true, w1, w2] at h
    rcases ch_spec (d := (d : Int)) h1 (by omega) (by omega) with ⟨q1, q2, q3⟩ | ⟨q1, a1, a2, a3, a4, a5⟩
    · rw [q1, q2, decide_eq_true rfl, decide_eq_true rfl, cond_true, cond_true] at h
      exact ⟨_, _, _, h, codes0c, .inl ⟨rfl, d + 1, by simp only [cn]; rw [if_pos q3, Int.add_zero], by omega, by omega, rfl⟩⟩
    · obtain ⟨b1, b2, _⟩ := ch_is h0 h1 (show 0 ≤ (d : Int) by omega) (by omega) q1
      unfold ccK at h
      rw [q1, b1, b2, w3, decide_eq_false (show ¬ (0 : Int) = 6 by omega), decide_eq_true rfl, decide_eq_true rfl, decide_eq_false (show ¬ chV o d < nx o by omega), decide_eq_false (show ¬ nx o + 5 ≤ chV o d by omega)] at h
      exact ⟨_, _, _, h, codes0c, .inl ⟨rfl, d + 1, by simp only [cn]; rw [if_neg (by omega)], by omega, by omega, rfl⟩⟩
  · have : d = 5 := by omega
    subst this
    rw [decide_eq_false (show ¬ ((5 : Nat) : Int) < 5 by omega), cond_false, cn_five h0 h1] at h
    exact ⟨_, _, _, by rw [cn_five h0 h1]; exact h, codes0c, .inr ⟨by simp, rfl⟩⟩
noncomputable def ccTree : List PV → Fin
  | [.i o, .i b, .b r, .i n, .i f, .i d, .ss ts] => .br (pB (0 ≤ o ∧ o ≤ 37 ∧ n = nx o ∧ f = 0 ∧ d = 0)) (.leaf (.exit 0) (ccX.at (ccQ o b r (nx o) (cnt5 o) ts))) .no
  | _ => .no
noncomputable def ccSum : LoopSum := lsumF 1 ccT ccLp ccTree
theorem ccSum_ok : LoopOk Tryd.prog ccSum := by
  refine lsumF_ok (by kernel_rfl) (fun rd ps e1 s1 h => ?_)
  unfold ccTree at h
  split at h
  · rename_i o b r n f d ts
    simp only [Fin.pick] at h
    cases hc : pB (0 ≤ o ∧ o ≤ 37 ∧ n = nx o ∧ f = 0 ∧ d = 0) with
    | false => rw [hc] at h; cases h
    | true =>
      rw [hc, cond_true] at h
      rw [pB_iff] at hc
      obtain ⟨h0, h1, rfl, rfl, rfl⟩ := hc
      cases h
      exact cc_loop rd o b r ts h0 h1 0 (by omega)
  · cases h
noncomputable def ccL : FuncId → Loops := fun f => match f with
  | 5 => sums (fun n => match n with | 7 => some ccSum | _ => none)
  | _ => noLoops
theorem ccL_ok : ∀ f, loopsOk Tryd.prog (ccL f) := fun f => by
  unfold ccL
  split
  · intro n g hg
    simp only [sums] at hg
    split at hg
    · cases hg; exact ccSum_ok
    · cases hg
  · exact noLoops_ok
def ccE (o d f : Int) : Option V :=
  bif !decide (f = foldI minI 5 [wr .i64 (38 - wr .i64 (nx o))]) then fV else
  bif !isB d then bif decide (juV o d = 0) then some (.bool (decide (juE o d = 80))) else fV else
  bif decide (d ≤ o) then bif decide (juV o d = 0) then some (.bool (decide (juE o d = 6))) else fV else
  bif decide (wr .i64 (juE o d + chE o (pd d)) = 0) then bif decide (0 ≤ juV o d) then bif decide (juV o d = wr .i64 (wr .i64 (pl d) - wr .i64 (pl (chV o (pd d))))) then
    some (.bool (decide (wr .i64 (wr .i64 (chV o (pd d)) + wr .i64 (5 * juV o d)) = wr .i64 d))) else fV else fV else fV
theorem cc_all (c d : Int) : lawG tabJ ccL 5 Tryd.f5 [.int .u8 c, .int .u8 d] = cond (pB (textsL = textsL)) (cond (codesB [(ccLp, ccLp)])
    (bif pB (0 ≤ c.tmod 38 ∧ c.tmod 38 ≤ 37 ∧ nx (c.tmod 38) = nx (c.tmod 38) ∧ (0 : Int) = 0 ∧ (0 : Int) = 0) then ccE (c.tmod 38) d (cnt5 (c.tmod 38)) else none) none) none := by kernel_rfl
theorem codes1 {a : Code} : codesB [(a, a)] = true := by rw [codesB_iff]; intro x hx; simp at hx; rw [hx]
theorem cc_true {c : Int} (d : Int) (hc : 0 ≤ c) : lawG tabJ ccL 5 Tryd.f5 [.int .u8 c, .int .u8 d] = some (.bool true) := by
  rw [cc_all, pB_iff.2 rfl, cond_true]
  have e : c.tmod 38 = c % 38 := Int.tmod_eq_emod_of_nonneg hc
  have h0 : 0 ≤ c.tmod 38 := by omega
  have h1 : c.tmod 38 ≤ 37 := by omega
  generalize c.tmod 38 = o at *
  rw [codes1, cond_true, pB_iff.2 ⟨h0, h1, rfl, rfl, rfl⟩, cond_true]
  unfold ccE cnt5
  rw [decide_eq_true rfl]
  simp only [Bool.not_true, cond_false]
  have h37 : decide (o ≤ 37) = true := decide_eq_true h1
  cases hd : isB d with
  | false => simp [juV, juE, hd, h37]
  | true =>
    obtain ⟨b1, b2, b3, b4⟩ := bid_is hd
    simp only [Bool.not_true, cond_false]
    by_cases hle : d ≤ o
    · rw [decide_eq_true hle]
      simp [juV, juE, hd, h37, decide_eq_true hle]
    · rw [decide_eq_false hle, cond_false]
      have hju : juE o d = 0 ∧ juV o d = wr .i64 (wr .i64 (pl d) - wr .i64 (pl (chV o (pd d)))) := by
        unfold juE juV
        rw [h37, hd, decide_eq_false hle]; exact ⟨rfl, rfl⟩
      obtain ⟨j1, j2⟩ := hju
      rcases ch_spec (d := pd d) h1 (by omega) (by omega) with ⟨q1, q2, q3⟩ | ⟨q1, a1, a2, a3, a4, a5⟩
      · omega
      · obtain ⟨i1, i2, i3⟩ := ch_is h0 h1 (by omega) (by omega) q1
        have w1 : wr .i64 (pl d) = pl d := wr64c (by omega) (by omega)
        have w2 : wr .i64 (pl (chV o (pd d))) = pl (chV o (pd d)) := wr64c (by omega) (by omega)
        have w3 : wr .i64 (pl d - pl (chV o (pd d))) = pl d - pl (chV o (pd d)) := wr64c (by omega) (by omega)
        rw [j1, q1, j2, w1, w2, w3]
        have hj : 0 ≤ pl d - pl (chV o (pd d)) := by omega
        have w4 : wr .i64 (5 * (pl d - pl (chV o (pd d)))) = 5 * (pl d - pl (chV o (pd d))) := wr64c (by omega) (by omega)
        have w5 : wr .i64 (chV o (pd d)) = chV o (pd d) := wr64c (by omega) (by omega)
        have w6 : wr .i64 d = d := wr64c (by omega) (by omega)
        have w7 : wr .i64 (chV o (pd d) + 5 * (pl d - pl (chV o (pd d)))) = chV o (pd d) + 5 * (pl d - pl (chV o (pd d))) := wr64c (by omega) (by omega)
        rw [w4, w5, w6, w7, decide_eq_true hj, decide_eq_true rfl, decide_eq_true (show chV o (pd d) + 5 * (pl d - pl (chV o (pd d))) = d by omega)]
        rfl
end Go.Proofs.YtpehklboickdpaaDoor
