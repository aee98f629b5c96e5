/- Chapter 9: the law AuctionEnds: its loops. -/
import Derived.Test.YtnhilofmafjdpaaDoorLdr
namespace Go.Proofs.YtnhilofmafjdpaaDoor
open Go Go.Eng
theorem next_ok {d : Int} {l : List Int} (h : (fol d l).e = 0) {i : Nat} (hi : i < l.length) : chk (fol d (l.take i)).s l[i] = 0 := by
  have h1 := fol_take h (i + 1)
  have h2 := fol_take h i
  rw [List.take_succ_eq_append_getElem hi, fol_snoc h2] at h1
  by_cases hc : chk (fol d (l.take i)).s l[i] = 0
  · exact hc
  · rw [decide_eq_false hc] at h1; exact absurd h1 hc
theorem okA_take {d : Int} {l : List Int} (h : okA d l = true) (i : Nat) : okA d (l.take i) = true := by
  have hu := okA_U h
  simp only [okA, smallL, Bool.and_eq_true, decide_eq_true_eq] at h ⊢
  refine ⟨h.1, by rw [List.length_take]; omega, ?_⟩
  rw [allU_iff] at hu ⊢
  exact fun x hx => hu x (List.mem_of_mem_take hx)
theorem lgl_zero {s : St} (h : ovr s = false) : (lgl s)[0]? = some 0 := by
  have h0 : chk s 0 = 0 := by unfold chk; rw [h]; rfl
  have e : calls38 = 0 :: calls38.tail := rfl
  unfold lgl
  rw [e, List.filter_cons_of_pos (by rw [h0]; rfl)]; rfl
theorem lgl_srt (s : St) : srt (lgl s) = true := decide_eq_true ((of_decide_eq_true (by kernel_rfl : decide (calls38.Pairwise (· ≤ ·)) = true)).filter _)
theorem lgl_in {s : St} {c : Int} (h : chk s c = 0) (h0 : 0 ≤ c) : c ∈ lgl s := by
  unfold lgl
  rw [List.mem_filter]
  refine ⟨?_, decide_eq_true h⟩
  simp only [calls38, List.mem_map, List.mem_range]
  have := (chk_open h).2
  exact ⟨c.toNat, by omega, by omega⟩
theorem e1G_true {d : Int} {l : List Int} (hk : okA d l = true) (hr : (fol d l).e = 0) {i : Nat} (hi : i < l.length) {Z R : RT} : e1G nK soK d (i : Int) l (List.take ((i : Int).toNat - 0) l) Z R = R := by
  have hd := fol_d hr
  have hd0 : 0 ≤ d := by simp only [okA, Bool.and_eq_true, decide_eq_true_eq] at hk; exact hk.1
  have hc := next_ok hr hi
  have hu := okA_U hk
  have hx : 0 ≤ l[i] := by rw [allU_iff] at hu; exact (hu _ (List.getElem_mem hi)).1
  obtain ⟨ho, _⟩ := chk_open hc
  have hP := fol_take hr i
  have hkP := okA_take hk i
  have ht := (hist hkP hP).turn
  rw [List.length_take, Nat.min_eq_left (by omega)] at ht
  rw [show (i : Int).toNat - 0 = i from rfl]
  generalize hPP : l.take i = P at *
  have eV : legV (fol d P) = lgl (fol d P).s := by unfold legV; rw [decide_eq_true hP, ho]; rfl
  have h1 : nK.N.GE d P = 0 := by show legE (fol d P) = 0; unfold legE; rw [decide_eq_true hP, ho]; rfl
  have h2 : nK.N.TE d P = 0 := by show tnE (fol d P) = 0; unfold tnE okU; rw [decide_eq_true hP, ho]; rfl
  have h3 : nK.N.TV d P = (d + (i : Int)) % 4 := by show tnV (fol d P) = _; unfold tnV okU; rw [decide_eq_true hP, ho]; exact ht
  have h4 : nK.N.GV d P = lgl (fol d P).s := eV
  have h5 : (wr .u8 (d + wr .u8 ((i : Int).tmod 4))).tmod 4 = (d + (i : Int)) % 4 := by
    rw [Int.tmod_eq_emod_of_nonneg (by omega : (0 : Int) ≤ (i : Int)), wr_u8_id (n := (i : Int) % 4) (by omega), wr_u8_id (by omega), Int.tmod_eq_emod_of_nonneg (by omega)]; omega
  have hz := lgl_zero ho
  have hln : (lgl (fol d P).s).length ≤ 38 := by rw [← eV]; exact legV_len _
  have hne : 0 < (lgl (fol d P).s).length := by
    rcases Nat.eq_zero_or_pos (lgl (fol d P).s).length with h | h
    · rw [List.eq_nil_of_length_eq_zero h] at hz; cases hz
    · exact h
  have hI : decide (0 ≤ nK.IX l[i] (lgl (fol d P).s)) = true := decide_eq_true ((idxR_mem _ 0).2 (lgl_in hc hx))
  unfold e1G
  rw [h1, h2, h3, h4, h5, hz, atU_at hi, hI, show nK.N.K d P = true from hkP, show nK.KL (lgl (fol d P).s) = true from decide_eq_true (by omega), show soK (lgl (fol d P).s) = true by unfold soK; rw [lgl_srt, decide_eq_true (by omega)]; rfl,
    decide_eq_true (show 0 ≤ (0 : Int) ∧ 0 ≤ (i : Int) ∧ (i : Int) ≤ Int.ofNat l.length by refine ⟨by omega, by omega, ?_⟩; show _ ≤ (l.length : Int); omega), decide_eq_true (show 0 + ((i : Int).toNat - 0) ≤ l.length by show 0 + (i - 0) ≤ _; omega),
    decide_eq_true (rfl : (d + (i : Int)) % 4 = (d + (i : Int)) % 4), decide_eq_false (show ¬ Int.ofNat (lgl (fol d P).s).length = 0 from fun h => by have : ((lgl (fol d P).s).length : Int) = 0 := h; omega),
    decide_eq_true (show (0 : Int) ≤ 0 ∧ 0 < Int.ofNat (lgl (fol d P).s).length from ⟨by omega, by show 0 < ((lgl (fol d P).s).length : Int); omega⟩)]
  rfl
theorem e1_loop (nn : Bool) (rd : Option Nat) (b : Bool) (d : Int) (tl : List ByteArray) (xs l : List Int) (hk : okA d l = true) (hl : l.length ≤ 319) (hr : (fol d l).e = 0) : ∀ i : Nat, i ≤ l.length →
    SimC Tryd.prog 2 rd (.loop e1Lp) ((e1T nn).at [.b b, .i d, .i (l.length : Int), .i (i : Int), .ss tl, .l xs, .l l]) (.exit 0) ((e1X nn).at [.b b, .i d, .ss tl, .l xs, .l l]) := by
  refine loop_of_rounds (C := orcS nK soK (tabEn ldV ldE) plainL) (L := noLoops) (N := 100) (me := 8) (T := e1T nn) (T' := e1X nn) (orcS_ok tabEn_ok plainL_ok) mixed noLoops_ok (by cases nn <;> kernel_rfl) (by cases nn <;> kernel_rfl) (X := Nat)
    (fun i => [.b b, .i d, .i (l.length : Int), .i (i : Int), .ss tl, .l xs, .l l]) (fun i => i ≤ l.length) (fun i => l.length - i) (fun _ => (.exit 0, [.b b, .i d, .ss tl, .l xs, .l l])) ?_
  intro i hi
  have h := e1_round nK soK ldV ldE nn rd b d (l.length : Int) (i : Int) tl xs l
  rcases Nat.lt_or_ge i l.length with hlt | hge
  · rw [decide_eq_true (show (i : Int) < (l.length : Int) by omega), cond_true, e1G_true hk hr hlt, wr64 (by omega) (by omega)] at h
    exact ⟨_, _, _, h, codes0, .inl ⟨rfl, i + 1, rfl, by omega, by omega, rfl⟩⟩
  · rw [decide_eq_false (show ¬ (i : Int) < (l.length : Int) by omega), cond_false] at h
    exact ⟨_, _, _, h, codes0, .inr ⟨by simp, rfl⟩⟩
/-! ### the first bid -/
def E2 (d dn bd n : Int) (l : List Int) (c4 : Int) : Prop := n = (l.length : Int) ∧ l.length ≤ 319 ∧ (0 ≤ d ∧ d < 4) ∧ (0 ≤ bd) ∧ ∃ i0 : Nat, ∃ h0 : i0 < l.length, c4 = (d + (i0 : Int)) % 4 ∧ fCond d (bd % 2) dn i0 l[i0] = true ∧ ∀ j, ∀ hj : j < i0, fCond d (bd % 2) dn j (l[j]'(by omega)) = false
theorem e2G_is {x d dn bd c4 : Int} {i : Nat} (hd : 0 ≤ d ∧ d < 4) (hb : 0 ≤ bd) (hi : i ≤ 319) (hc : 0 ≤ c4 ∧ c4 < 4) {Z X R : RT} : e2G x d (i : Int) dn bd c4 Z X R = bif fCond d (bd % 2) dn i x then (bif decide ((d + (i : Int)) % 4 = c4) then X else Z) else R := by
  unfold e2G fCond dnZ
  rw [wr64 (n := d) (by omega) (by omega), wr64 (n := d + (i : Int)) (by omega) (by omega), wr64 (n := c4) (by omega) (by omega), Int.tmod_eq_emod_of_nonneg (by omega), Int.tmod_eq_emod_of_nonneg hb, Int.tmod_eq_emod_of_nonneg (by omega)]
  cases isBid x with
  | false => rfl
  | true =>
    cases decide ((d + (i : Int)) % 2 = bd % 2) <;> cases decide ((d + (i : Int)) % 4 = c4) <;> simp only [cond_true, Bool.true_and] <;> cases decide (dnI x = dn) <;> rfl
theorem e2_loop (nn : Bool) (rd : Option Nat) (b : Bool) (d a dn bd c1 c2 c3 c4 : Int) (tl : List ByteArray) (xs l : List Int) (hl : l.length ≤ 319) (hd : 0 ≤ d ∧ d < 4) (hb : 0 ≤ bd) (i0 : Nat) (h0 : i0 < l.length) (hc : c4 = (d + (i0 : Int)) % 4) (ht : fCond d (bd % 2) dn i0 l[i0] = true)
    (hf : ∀ j, ∀ hj : j < i0, fCond d (bd % 2) dn j (l[j]'(by omega)) = false) : ∀ i : Nat, i ≤ i0 →
    SimC Tryd.prog 2 rd (.loop e2Lp) ((e2T nn).at [.b b, .i d, .i a, .i dn, .i bd, .i (l.length : Int), .i (i : Int), .ss tl, .l xs, .l l, .i c1, .i c2, .i c3, .i c4]) (.exit 2) ((e2X nn).at [.b b, .i d, .i a, .i bd, .ss tl, .l xs, .l l, .i c1, .i c2, .i c3, .i c4]) := by
  refine loop_of_rounds (C := orcS nK soK (tabEn ldV ldE) plainL) (L := noLoops) (N := 100) (me := 8) (T := e2T nn) (T' := e2X nn) (orcS_ok tabEn_ok plainL_ok) mixed noLoops_ok (by cases nn <;> kernel_rfl) (by cases nn <;> kernel_rfl) (X := Nat)
    (fun i => [.b b, .i d, .i a, .i dn, .i bd, .i (l.length : Int), .i (i : Int), .ss tl, .l xs, .l l, .i c1, .i c2, .i c3, .i c4]) (fun i => i ≤ i0) (fun i => i0 - i) (fun _ => (.exit 2, [.b b, .i d, .i a, .i bd, .ss tl, .l xs, .l l, .i c1, .i c2, .i c3, .i c4])) ?_
  intro i hi
  have h := e2_round nK soK ldV ldE nn rd b d a dn bd (l.length : Int) (i : Int) c1 c2 c3 c4 tl xs l
  have hlt : i < l.length := by omega
  rw [decide_eq_true (show (i : Int) < (l.length : Int) by omega), cond_true, atU_at hlt, e2G_is hd hb (by omega) (by omega), wr64 (by omega) (by omega)] at h
  rcases Nat.lt_or_ge i i0 with hlt | hge
  · rw [hf i hlt] at h
    exact ⟨_, _, _, h, codes0, .inl ⟨rfl, i + 1, rfl, by omega, by omega, rfl⟩⟩
  · obtain rfl : i = i0 := by omega
    rw [ht, hc, decide_eq_true rfl] at h
    rw [hc]
    exact ⟨_, _, _, h, codes0, .inr ⟨by simp, rfl⟩⟩
/-! ### the risk -/
def E3 (d bd i : Int) (l : List Int) (c3 : Int) : Prop := ∃ a : Nat, a < l.length ∧ i = ((a + 1 : Nat) : Int) ∧ l.length ≤ 319 ∧ (0 ≤ d ∧ d < 4) ∧ bd = (d + (a : Int)) % 4 ∧ allU l = true ∧ rkF 0 0 (l.drop (a + 1)) = some c3
theorem par_is {d bd : Int} {a k : Nat} (hd : 0 ≤ d ∧ d < 4) (hl : a + 1 + k ≤ 319) (hb : bd = (d + (a : Int)) % 4) : decide ((wr .i64 (wr .i64 d + ((a + 1 + k : Nat) : Int))).tmod 2 = bd.tmod 2) = decide (k % 2 = 1) := by
  have e1 : wr .i64 d = d := wr64 (by omega) (by omega)
  have e2 : wr .i64 (d + ((a + 1 + k : Nat) : Int)) = d + ((a + 1 + k : Nat) : Int) := wr64 (by omega) (by omega)
  have e3 : (d + ((a + 1 + k : Nat) : Int)).tmod 2 = (d + ((a + 1 + k : Nat) : Int)) % 2 := Int.tmod_eq_emod_of_nonneg (by omega)
  have e4 : bd.tmod 2 = bd % 2 := Int.tmod_eq_emod_of_nonneg (by omega)
  rw [e1, e2, e3, e4, hb]
  congr 1
  simp only [eq_iff_iff]
  omega
theorem e3_loop (nn : Bool) (rd : Option Nat) (b : Bool) (d bd c1 c2 c3 c4 : Int) (tl : List ByteArray) (xs l : List Int) (hl : l.length ≤ 319) (hd : 0 ≤ d ∧ d < 4) (a : Nat) (hb : bd = (d + (a : Int)) % 4) (hu : allU l = true) : ∀ x : Nat × Int, (a + 1 + x.1 ≤ l.length ∧ rkF x.1 x.2 (l.drop (a + 1 + x.1)) = some c3) →
    SimC Tryd.prog 2 rd (.loop e3Lp) ((e3T nn).at [.b b, .i d, .i bd, .i x.2, .i ((a + 1 + x.1 : Nat) : Int), .ss tl, .l xs, .l l, .i c1, .i c2, .i c3, .i c4]) (.exit 4) ((e3X nn).at [.b b, .i d, .i c3, .ss tl, .l xs, .l l, .i c1, .i c2, .i c3, .i c4]) := by
  refine loop_of_rounds (C := orcS nK soK (tabEn ldV ldE) plainL) (L := noLoops) (N := 100) (me := 8) (T := e3T nn) (T' := e3X nn) (orcS_ok tabEn_ok plainL_ok) mixed noLoops_ok (by cases nn <;> kernel_rfl) (by cases nn <;> kernel_rfl) (X := Nat × Int)
    (fun x => [.b b, .i d, .i bd, .i x.2, .i ((a + 1 + x.1 : Nat) : Int), .ss tl, .l xs, .l l, .i c1, .i c2, .i c3, .i c4]) (fun x => a + 1 + x.1 ≤ l.length ∧ rkF x.1 x.2 (l.drop (a + 1 + x.1)) = some c3) (fun x => l.length - x.1) (fun _ => (.exit 4, [.b b, .i d, .i c3, .ss tl, .l xs, .l l, .i c1, .i c2, .i c3, .i c4])) ?_
  rintro ⟨k, r⟩ ⟨hk, hr⟩
  dsimp only at hk hr ⊢
  have h := e3_round nK soK ldV ldE nn rd b d bd r ((a + 1 + k : Nat) : Int) c1 c2 c3 c4 tl xs l
  rcases Nat.lt_or_ge (a + 1 + k) l.length with hlt | hge
  · rw [decide_eq_true (show ((a + 1 + k : Nat) : Int) < Int.ofNat l.length by show _ < (l.length : Int); omega), cond_true, atU_at hlt, atU_at hlt, wr64 (n := ((a + 1 + k : Nat) : Int) + 1) (by omega) (by omega)] at h
    rw [List.drop_eq_getElem_cons hlt] at hr
    have hx : 0 ≤ l[a + 1 + k] ∧ l[a + 1 + k] < 256 := by rw [allU_iff] at hu; exact hu _ (List.getElem_mem hlt)
    generalize l[a + 1 + k] = x at *
    unfold rkF at hr
    by_cases h0 : x = 0
    · rw [if_pos h0] at hr
      rw [decide_eq_true h0] at h
      exact ⟨_, _, _, h, codes0, .inl ⟨rfl, (k + 1, r), by simp; omega, ⟨by omega, hr⟩, by simp; omega, rfl⟩⟩
    · rw [if_neg h0] at hr
      rw [decide_eq_false h0] at h
      by_cases h1 : x = r + 1 ∧ decide (k % 2 = 1) = decide (r = 1)
      · rw [if_pos h1] at hr
        have ew : wr .u8 (r + 1) = r + 1 := wr_u8_id (by omega)
        have ep : decide ((wr .i64 (wr .i64 d + ((a + 1 + k : Nat) : Int))).tmod 2 = bd.tmod 2) = decide (r = 1) := by
          exact (par_is hd (by omega) hb).trans h1.2
        have eg : ∀ Z R : RT, e3G x d ((a + 1 + k : Nat) : Int) bd r Z R = R := fun Z R => by
          unfold e3G
          rw [ew, ep, decide_eq_true h1.1]
          cases decide (r = 1) <;> rfl
        rw [eg, ew] at h
        exact ⟨_, _, _, h, codes0, .inl ⟨rfl, (k + 1, r + 1), by simp; omega, ⟨by omega, hr⟩, by simp; omega, rfl⟩⟩
      · rw [if_neg h1] at hr; cases hr
  · rw [decide_eq_false (show ¬ ((a + 1 + k : Nat) : Int) < Int.ofNat l.length from fun h => by have : ((a + 1 + k : Nat) : Int) < (l.length : Int) := h; omega), cond_false] at h
    rw [List.drop_eq_nil_of_le (by omega)] at hr
    cases hr
    exact ⟨_, _, _, h, codes0, .inr ⟨by simp, rfl⟩⟩
end Go.Proofs.YtnhilofmafjdpaaDoor
