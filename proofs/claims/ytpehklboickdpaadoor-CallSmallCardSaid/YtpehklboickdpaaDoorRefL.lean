/- Chapter 8: what the reference's Bid, Cheapest and Jump answer: the program's answers. -/
import Derived.Test.YtpehklboickdpaaDoorRefT
import Derived.Test.YtpehklboickdpaaDoorLCheapest
namespace Go.Proofs.YtpehklboickdpaaDoor
open Go Go.Eng
theorem inR_true {c : Int} (h : 0 ≤ c) (h2 : c < 256) : inR c = true := decide_eq_true ⟨h, h2⟩
/-- A number that is a bid, by its parts. -/
theorem parts_of {c : Int} (h : 3 ≤ c) (h2 : c ≤ 37) : pl c = (c - 3) / 5 + 1 ∧ pd c = (c - 3) % 5 := by
  obtain ⟨_, _, h3, h4⟩ := bid_is (isB_iff.2 ⟨h, h2⟩)
  exact ⟨h3, h4⟩
theorem badB_iff {l d : Int} : badB l d = true ↔ l < 1 ∨ 7 < l ∨ 5 ≤ d := by
  unfold badB
  by_cases a : l < 1
  · rw [decide_eq_true a]; simp [a]
  · rw [decide_eq_false a, cond_false]
    by_cases b : 7 < l
    · rw [decide_eq_true b]; simp [b]
    · rw [decide_eq_false b, cond_false, decide_eq_true_eq]; omega
theorem rb_loop (rd : Option Nat) (l d r e : Int) (hd : 0 ≤ d) : ∀ c : Nat, (3 ≤ c ∧ c ≤ 38 ∧ ∀ c' : Int, 3 ≤ c' → c' < c → ¬ (pl c' = l ∧ pd c' = d)) →
    SimC Tryd.prog 0 rd (.loop rbLp) (rbT.at [.i l, .i d, .i r, .i e, .i c]) (if badB l d then XE.exit 0 else .ret) (rbX.at (if badB l d then [.i l, .i d, .i r, .i e] else [.i l, .i d, .i (bidV l d), .i 0])) := by
  refine fun c hc => loop_of_rounds (C := orcR) (L := noLoops) (N := 100) (me := 32) (T := rbT) (T' := rbX) orcR_ok mixed noLoops_ok (by kernel_rfl) (by kernel_rfl) (X := Nat)
    (fun c => [.i l, .i d, .i r, .i e, .i c]) (fun c => 3 ≤ c ∧ c ≤ 38 ∧ ∀ c' : Int, 3 ≤ c' → c' < c → ¬ (pl c' = l ∧ pd c' = d)) (fun c => 38 - c)
    (fun _ => (if badB l d then XE.exit 0 else .ret, if badB l d then [.i l, .i d, .i r, .i e] else [.i l, .i d, .i (bidV l d), .i 0])) ?_ c hc
  rintro c ⟨h3, h38, hno⟩
  have h := rb_round rd l d r e c
  by_cases hlt : c < 38
  · obtain ⟨p1, p2⟩ := parts_of (c := (c : Int)) (by omega) (by omega)
    have w1 : wr .u8 ((c : Int) + 1) = ((c + 1 : Nat) : Int) := by rw [wr8 (by omega) (by omega)]; omega
    rw [decide_eq_true (show (c : Int) < 38 by omega), cond_true, inR_true (by omega) (by omega), cond_true, w1] at h
    have go : ¬ (pl c = l ∧ pd c = d) → (bif decide (pl (c : Int) = l) then bif decide (pd (c : Int) = d) then some (XE.ret, [PV.i l, .i d, .i c, .i 0], ([] : List (Code × Code))) else some (.normal, [.i l, .i d, .i r, .i e, .i ((c + 1 : Nat) : Int)], [])
      else some (.normal, [.i l, .i d, .i r, .i e, .i ((c + 1 : Nat) : Int)], [])) = some (.normal, [.i l, .i d, .i r, .i e, .i ((c + 1 : Nat) : Int)], []) := fun hn => by
      by_cases a : pl (c : Int) = l
      · rw [decide_eq_true a, cond_true, decide_eq_false (fun b => hn ⟨a, b⟩)]; rfl
      · rw [decide_eq_false a]; rfl
    by_cases hit : pl (c : Int) = l ∧ pd (c : Int) = d
    · rw [decide_eq_true hit.1, decide_eq_true hit.2] at h
      have hb : badB l d = false := by
        cases hb : badB l d with
        | false => rfl
        | true => have := badB_iff.1 hb; omega
      obtain ⟨q1, _⟩ := bid_bid (l := l) (d := d) (by omega) (by omega) hd (by omega)
      refine ⟨_, _, _, h, codes0c, .inr ⟨by simp, ?_⟩⟩
      rw [hb, q1, show 3 + 5 * (l - 1) + d = (c : Int) by omega]
      rfl
    · rw [go hit] at h
      refine ⟨_, _, _, h, codes0c, .inl ⟨rfl, c + 1, rfl, ⟨by omega, by omega, fun c' h1 h2 => ?_⟩, by omega, rfl⟩⟩
      by_cases he : c' = c
      · subst he; exact hit
      · exact hno c' h1 (by omega)
  · have : c = 38 := by omega
    subst this
    rw [decide_eq_false (show ¬ ((38 : Nat) : Int) < 38 by omega), cond_false] at h
    have hb : badB l d = true := by
      cases hb : badB l d with
      | true => rfl
      | false =>
        have h1 : ¬ (l < 1 ∨ 7 < l ∨ 5 ≤ d) := fun h => by rw [badB_iff.2 h] at hb; cases hb
        obtain ⟨p1, p2⟩ := parts_of (c := 3 + 5 * (l - 1) + d) (by omega) (by omega)
        exact absurd ⟨by omega, by omega⟩ (hno (3 + 5 * (l - 1) + d) (by omega) (by omega))
    exact ⟨_, _, _, h, codes0c, .inr ⟨by simp, by rw [hb]; rfl⟩⟩
theorem rc_loop (rd : Option Nat) (o d r e : Int) (h0 : 0 ≤ o) (h1 : o ≤ 37) (hd : 0 ≤ d) (hd4 : d ≤ 4) : ∀ c : Nat, (3 ≤ c ∧ c ≤ 38 ∧ ∀ c' : Int, 3 ≤ c' → c' < c → ¬ (pd c' = d ∧ o < c')) →
    SimC Tryd.prog 0 rd (.loop rcLp) (rcT.at [.i o, .i d, .i r, .i e, .i c]) (if chE o d = 0 then XE.ret else .exit 0) (rcX.at (if chE o d = 0 then [.i o, .i d, .i (chV o d), .i 0] else [.i o, .i d, .i r, .i e])) := by
  refine fun c hc => loop_of_rounds (C := orcR) (L := noLoops) (N := 100) (me := 35) (T := rcT) (T' := rcX) orcR_ok mixed noLoops_ok (by kernel_rfl) (by kernel_rfl) (X := Nat)
    (fun c => [.i o, .i d, .i r, .i e, .i c]) (fun c => 3 ≤ c ∧ c ≤ 38 ∧ ∀ c' : Int, 3 ≤ c' → c' < c → ¬ (pd c' = d ∧ o < c')) (fun c => 38 - c)
    (fun _ => (if chE o d = 0 then XE.ret else .exit 0, if chE o d = 0 then [.i o, .i d, .i (chV o d), .i 0] else [.i o, .i d, .i r, .i e])) ?_ c hc
  rintro c ⟨h3, h38, hno⟩
  have h := rc_round rd o d r e c
  have hs := ch_spec (o := o) (d := d) h1 hd hd4
  by_cases hlt : c < 38
  · obtain ⟨_, p2⟩ := parts_of (c := (c : Int)) (by omega) (by omega)
    have w1 : wr .u8 ((c : Int) + 1) = ((c + 1 : Nat) : Int) := by rw [wr8 (by omega) (by omega)]; omega
    rw [decide_eq_true (show (c : Int) < 38 by omega), cond_true, inR_true (by omega) (by omega), cond_true, w1] at h
    by_cases hit : pd (c : Int) = d ∧ o < c
    · rw [decide_eq_true hit.1, decide_eq_true hit.2] at h
      have hE : chE o d = 0 ∧ chV o d = c := by
        rcases hs with ⟨q1, q2, q3⟩ | ⟨q1, a1, a2, a3, a4, a5⟩
        · omega
        · refine ⟨q1, ?_⟩
          obtain ⟨_, i2⟩ := parts_of (c := chV o d) (by omega) (by omega)
          by_cases hl : chV o d < c
          · exact absurd ⟨by omega, a1⟩ (hno (chV o d) (by omega) hl)
          · omega
      refine ⟨_, _, _, h, codes0c, .inr ⟨by simp, ?_⟩⟩
      rw [if_pos hE.1, if_pos hE.1, hE.2]
    · have go : (bif decide (pd (c : Int) = d) then bif decide (o < c) then some (XE.ret, [PV.i o, .i d, .i c, .i 0], ([] : List (Code × Code))) else some (.normal, [.i o, .i d, .i r, .i e, .i ((c + 1 : Nat) : Int)], [])
          else some (.normal, [.i o, .i d, .i r, .i e, .i ((c + 1 : Nat) : Int)], [])) = some (.normal, [.i o, .i d, .i r, .i e, .i ((c + 1 : Nat) : Int)], []) := by
        by_cases a : pd (c : Int) = d
        · rw [decide_eq_true a, cond_true, decide_eq_false (fun b => hit ⟨a, b⟩)]; rfl
        · rw [decide_eq_false a]; rfl
      rw [go] at h
      refine ⟨_, _, _, h, codes0c, .inl ⟨rfl, c + 1, rfl, ⟨by omega, by omega, fun c' h1 h2 => ?_⟩, by omega, rfl⟩⟩
      by_cases he : c' = c
      · subst he; exact hit
      · exact hno c' h1 (by omega)
  · have : c = 38 := by omega
    subst this
    rw [decide_eq_false (show ¬ ((38 : Nat) : Int) < 38 by omega), cond_false] at h
    have hE : ¬ chE o d = 0 := fun hE => by
      rcases hs with ⟨q1, q2, q3⟩ | ⟨q1, a1, a2, a3, a4, a5⟩
      · omega
      · obtain ⟨_, i2⟩ := parts_of (c := chV o d) (by omega) (by omega)
        exact hno (chV o d) (by omega) (by omega) ⟨by omega, a1⟩
    exact ⟨_, _, _, h, codes0c, .inr ⟨by simp, by rw [if_neg hE, if_neg hE]⟩⟩
/-- How many bids of a denomination lie below c, from q on. -/
def qn (q c : Int) : Int := if c ≤ q then 0 else (c - q + 4) / 5
theorem qn_hit {q c b : Int} (hq : (q - 3 - (b - 3) % 5) % 5 = 0) (hc : (c - 3) % 5 = (b - 3) % 5) (hl : q ≤ c) : qn q c + 1 = qn q (c + 1) := by
  unfold qn
  rw [if_neg (show ¬ c + 1 ≤ q by omega)]
  split <;> omega
theorem qn_skip {q c b : Int} (hq : (q - 3 - (b - 3) % 5) % 5 = 0) (hc : ¬ (c - 3) % 5 = (b - 3) % 5) : qn q c = qn q (c + 1) := by
  unfold qn
  by_cases h : c + 1 ≤ q
  · rw [if_pos h, if_pos (by omega)]
  · rw [if_neg h]
    split <;> omega
theorem qn_low {q c : Int} (h : c < q) : qn q c = qn q (c + 1) := by
  unfold qn
  rw [if_pos (by omega), if_pos (by omega)]
theorem rj_loop (rd : Option Nat) (o b r e : Int) (h0 : 0 ≤ o) (h1 : o ≤ 37) (hb : isB b = true) (hob : o < b) : ∀ c : Nat, (3 ≤ c ∧ (c : Int) ≤ b) →
    SimC Tryd.prog 0 rd (.loop rjLp) (rjT.at [.i o, .i b, .i r, .i e, .i (pd b), .i (qn (chV o (pd b)) c), .i c]) (.exit 0) (rjX.at [.i o, .i b, .i r, .i e, .i (qn (chV o (pd b)) b)]) := by
  refine fun c hc => loop_of_rounds (C := orcR) (L := noLoops) (N := 100) (me := 36) (T := rjT) (T' := rjX) orcR_ok mixed noLoops_ok (by kernel_rfl) (by kernel_rfl) (X := Nat)
    (fun c => [.i o, .i b, .i r, .i e, .i (pd b), .i (qn (chV o (pd b)) c), .i c]) (fun c => 3 ≤ c ∧ (c : Int) ≤ b) (fun c => 38 - c)
    (fun _ => (.exit 0, [.i o, .i b, .i r, .i e, .i (qn (chV o (pd b)) b)])) ?_ c hc
  rintro c ⟨h3, hcb⟩
  obtain ⟨b1, b2, b3, b4⟩ := bid_is hb
  have h := rj_round rd o b r e (pd b) (qn (chV o (pd b)) c) c
  have hs := ch_spec (o := o) (d := pd b) h1 (by omega) (by omega)
  generalize hq : chV o (pd b) = q at *
  by_cases hlt : (c : Int) < b
  · obtain ⟨_, p2⟩ := parts_of (c := (c : Int)) (by omega) (by omega)
    have w1 : wr .u8 ((c : Int) + 1) = ((c + 1 : Nat) : Int) := by rw [wr8 (by omega) (by omega)]; omega
    have hn : 0 ≤ qn q c ∧ qn q c ≤ 40 := by
      unfold qn
      rcases hs with ⟨q1, q2, q3⟩ | ⟨q1, a1, a2, a3, a4, a5⟩ <;> split <;> omega
    have w2 : wr .i64 (qn q c + 1) = qn q c + 1 := wr64c (by omega) (by omega)
    rw [decide_eq_true hlt, cond_true, inR_true (by omega) (by omega), cond_true, w1, w2] at h
    rcases hs with ⟨q1, q2, q3⟩ | ⟨q1, a1, a2, a3, a4, a5⟩
    · omega
    · by_cases hit : pd (c : Int) = pd b ∧ o < c
      · rw [decide_eq_true hit.1, decide_eq_true hit.2] at h
        have hqn : qn q c + 1 = qn q ((c + 1 : Nat) : Int) := qn_hit (b := b) (by omega) (by omega) (by omega)
        rw [hqn] at h
        exact ⟨_, _, _, h, codes0c, .inl ⟨rfl, c + 1, rfl, ⟨by omega, by omega⟩, by omega, rfl⟩⟩
      · have go : (bif decide (pd (c : Int) = pd b) then bif decide (o < c) then some (XE.normal, [PV.i o, .i b, .i r, .i e, .i (pd b), .i (qn q c + 1), .i ((c + 1 : Nat) : Int)], ([] : List (Code × Code))) else some (.normal, [.i o, .i b, .i r, .i e, .i (pd b), .i (qn q c), .i ((c + 1 : Nat) : Int)], [])
            else some (.normal, [.i o, .i b, .i r, .i e, .i (pd b), .i (qn q c), .i ((c + 1 : Nat) : Int)], [])) = some (.normal, [.i o, .i b, .i r, .i e, .i (pd b), .i (qn q c), .i ((c + 1 : Nat) : Int)], []) := by
          by_cases a : pd (c : Int) = pd b
          · rw [decide_eq_true a, cond_true, decide_eq_false (fun b => hit ⟨a, b⟩)]; rfl
          · rw [decide_eq_false a]; rfl
        rw [go] at h
        have hqn : qn q c = qn q ((c + 1 : Nat) : Int) := by
          by_cases hl : (c : Int) < q
          · exact qn_low hl
          · have hpb : ¬ pd (c : Int) = pd b := fun a => hit ⟨a, by omega⟩
            exact qn_skip (b := b) (by omega) (by omega)
        exact ⟨_, _, _, h, codes0c, .inl ⟨rfl, c + 1, by rw [hqn], ⟨by omega, by omega⟩, by omega, rfl⟩⟩
  · have hc' : (c : Int) = b := by omega
    rw [hc', decide_eq_false (show ¬ b < b by omega), cond_false] at h
    exact ⟨_, _, _, by rw [hc']; exact h, codes0c, .inr ⟨by simp, rfl⟩⟩
end Go.Proofs.YtpehklboickdpaaDoor
