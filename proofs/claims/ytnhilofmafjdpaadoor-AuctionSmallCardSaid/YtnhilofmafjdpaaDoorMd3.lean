/- Chapter 9: Made: its loops as a whole. -/
import Derived.Test.YtnhilofmafjdpaaDoorRB
namespace Go.Proofs.YtnhilofmafjdpaaDoor
open Go Go.Eng
def pkI (lg : List Int) (n : Int) : Int := bif decide (128 ≤ n) then (pk1 lg n).tmod (pk3 lg) else pk1 lg n
def pick (lg : List Int) (n : Int) : Int := lg.getD (pkI lg n).toNat 0
def goOn (d : Int) (out : List Int) : Bool := decide (legE (fol d out) = 0) && !decide ((legV (fol d out)).length = 0)
def mdR (d : Int) : List Int → List Int → List Int
  | [], out => out
  | n :: r, out => bif goOn d out then mdR d r (out ++ [pick (legV (fol d out)) n]) else out
def fnS (d : Int) (fin : Bool) (out : List Int) : List Int := bif fin && (decide (ovE (fol d out) = 0) && !ovB (fol d out)) then out ++ [0] else out
def fnR (d : Int) (fin : Bool) : Nat → List Int → List Int
  | 0, out => out
  | k + 1, out => fnR d fin k (fnS d fin out)
theorem lgl_mem {s : St} {c : Int} (h : c ∈ lgl s) : 0 ≤ c ∧ c ≤ 37 ∧ chk s c = 0 := by
  unfold lgl at h
  rw [List.mem_filter] at h
  obtain ⟨h1, h2⟩ := h
  simp only [calls38, List.mem_map, List.mem_range] at h1
  obtain ⟨k, hk, rfl⟩ := h1
  exact ⟨by omega, by omega, of_decide_eq_true h2⟩
theorem legV_mem {F : FR} {c : Int} (h : c ∈ legV F) : 0 ≤ c ∧ c ≤ 37 ∧ chk F.s c = 0 := by
  unfold legV at h
  cases he : decide (F.e = 0) with
  | false => rw [he] at h; cases h
  | true =>
    rw [he] at h
    cases ho : ovr F.s with
    | true => rw [ho] at h; cases h
    | false => rw [ho] at h; exact lgl_mem h
theorem legV_len (F : FR) : (legV F).length ≤ 38 := by
  unfold legV
  cases decide (F.e = 0) with
  | false => exact Nat.zero_le _
  | true => cases ovr F.s with
    | true => exact Nat.zero_le _
    | false => exact List.length_filter_le _ _
theorem pk_range {lg : List Int} {n : Int} (h0 : 0 < lg.length) (h1 : lg.length ≤ 38) (hn : 0 ≤ n ∧ n < 256) : (0 ≤ pk1 lg n ∧ pk1 lg n < Int.ofNat lg.length) ∧ 0 < pk3 lg ∧ (0 ≤ (pk1 lg n).tmod (pk3 lg) ∧ (pk1 lg n).tmod (pk3 lg) < Int.ofNat lg.length) := by
  have hof : Int.ofNat lg.length = (lg.length : Int) := rfl
  have a1 : 0 ≤ pk1 lg n ∧ pk1 lg n < Int.ofNat lg.length := by
    unfold pk1
    rw [wr64 (by omega) (by omega), hof, Int.tmod_eq_emod_of_nonneg (by omega)]
    exact ⟨Int.emod_nonneg _ (by omega), Int.emod_lt_of_pos _ (by omega)⟩
  have a2 : 0 < pk3 lg ∧ pk3 lg ≤ Int.ofNat lg.length := by
    unfold pk3 foldI foldI minI
    by_cases h : (3 : Int) < Int.ofNat lg.length
    · rw [decide_eq_true h]; simp only [cond_true]; omega
    · rw [decide_eq_false h]; simp only [cond_false]; omega
  refine ⟨a1, a2.1, ?_⟩
  rw [Int.tmod_eq_emod_of_nonneg a1.1]
  have := Int.emod_nonneg (pk1 lg n) (b := pk3 lg) (by omega)
  have := Int.emod_lt_of_pos (pk1 lg n) a2.1
  omega
theorem pkI_range {lg : List Int} {n : Int} (h0 : 0 < lg.length) (h1 : lg.length ≤ 38) (hn : 0 ≤ n ∧ n < 256) : 0 ≤ pkI lg n ∧ pkI lg n < Int.ofNat lg.length := by
  obtain ⟨a1, _, a3⟩ := pk_range h0 h1 hn
  unfold pkI
  cases decide (128 ≤ n) with
  | true => exact a3
  | false => exact a1
theorem pick_mem {lg : List Int} {n : Int} (h0 : 0 < lg.length) (h1 : lg.length ≤ 38) (hn : 0 ≤ n ∧ n < 256) : pick lg n ∈ lg := by
  obtain ⟨a, b⟩ := pkI_range h0 h1 hn
  have hof : Int.ofNat lg.length = (lg.length : Int) := rfl
  unfold pick
  have hl : (pkI lg n).toNat < lg.length := by omega
  rw [List.getD_eq_getElem?_getD, List.getElem?_eq_getElem hl]
  exact List.getElem_mem hl
theorem pkA_at {lg out : List Int} {j : Int} (h : 0 ≤ j ∧ j < Int.ofNat lg.length) (ho : out.length ≤ 1000) {K : List Int → RT} : pkA lg out j K = K (out ++ [lg.getD j.toNat 0]) := by
  have hof : Int.ofNat lg.length = (lg.length : Int) := rfl
  have hl : j.toNat < lg.length := by omega
  unfold pkA
  rw [decide_eq_true h, cond_true, List.getElem?_eq_getElem hl, List.getD_eq_getElem?_getD, List.getElem?_eq_getElem hl]
  dsimp only [Option.getD_some]
  rw [decide_eq_true (show (out ++ [lg[j.toNat]]).length * 2 ≤ 70368744177664 by rw [List.length_append, List.length_singleton]; omega)]; rfl
theorem m1G_is {d n : Int} {out : List Int} (hk : okA d out = true) (ho : out.length ≤ 1000) (hn : 0 ≤ n ∧ n < 256) {S : RT} {K : List Int → RT} : m1G nA d out n S S K = bif goOn d out then K (out ++ [pick (legV (fol d out)) n]) else S := by
  unfold m1G goOn
  rw [show nA.K d out = true from hk, show nA.GE d out = legE (fol d out) from rfl, show nA.GV d out = legV (fol d out) from rfl, cond_true]
  cases decide (legE (fol d out) = 0) with
  | false => rfl
  | true =>
    rw [Bool.not_true, cond_false, Bool.true_and]
    rcases Nat.eq_zero_or_pos (legV (fol d out)).length with h0 | h0
    · rw [h0]; rfl
    · have hl := legV_len (fol d out)
      obtain ⟨a1, a2, a3⟩ := pk_range h0 hl hn
      rw [decide_eq_false (show ¬ Int.ofNat (legV (fol d out)).length = 0 from fun h => by have h : ((legV (fol d out)).length : Int) = 0 := h; omega), decide_eq_false (show ¬ (legV (fol d out)).length = 0 by omega)]
      simp only [cond_false, Bool.not_false, cond_true]
      unfold pick pkI
      cases decide (128 ≤ n) with
      | true =>
        simp only [cond_true]
        rw [decide_eq_false (by omega), cond_false, pkA_at a3 ho]
      | false =>
        simp only [cond_false]
        rw [pkA_at a1 ho]
theorem okA_snoc {d c : Int} {out : List Int} (h : okA d out = true) (hl : out.length ≤ 1000) (hc : 0 ≤ c ∧ c < 256) : okA d (out ++ [c]) = true := by
  simp only [okA, smallL, Bool.and_eq_true, decide_eq_true_eq, allU_iff, List.length_append, List.length_singleton] at h ⊢
  refine ⟨h.1, by omega, fun x hx => ?_⟩
  rcases List.mem_append.1 hx with hx | hx
  · exact h.2.2 x hx
  · rw [List.mem_singleton] at hx; subst hx; exact hc
theorem goOn_pos {d : Int} {out : List Int} (h : goOn d out = true) : 0 < (legV (fol d out)).length := by
  simp only [goOn, Bool.and_eq_true, Bool.not_eq_true', decide_eq_false_iff_not] at h
  omega
theorem pick_u8 {d n : Int} {out : List Int} (h : goOn d out = true) (hn : 0 ≤ n ∧ n < 256) : 0 ≤ pick (legV (fol d out)) n ∧ pick (legV (fol d out)) n < 256 := by
  have := legV_mem (pick_mem (goOn_pos h) (legV_len _) hn)
  omega
theorem m1_loop (nn : Bool) (rd : Option Nat) (d : Int) (fin : Bool) (xs : List Int) (hu : allU xs = true) (k : Nat) (hk : k ≤ xs.length) (h3 : k ≤ 319) : ∀ x : Nat × List Int, (x.1 ≤ k ∧ (okA d x.2 = true ∧ x.2.length ≤ x.1)) →
    SimC Tryd.prog 1 rd (.loop m1Lp) ((m1T nn).at [.i d, .b fin, .n 0, .n k, .i (k : Int), .i (x.1 : Int), .l xs, .l x.2]) (.exit 0) ((m1X nn).at [.i d, .b fin, .l xs, .l (mdR d ((xs.take k).drop x.1) x.2)]) := by
  refine loop_of_rounds (C := orcC nA (tabO chk ovr) plainL) (L := noLoops) (N := 100) (me := 14) (T := m1T nn) (T' := m1X nn) (orcC_ok tabO_ok plainL_ok) mixed noLoops_ok (by cases nn <;> kernel_rfl) (by cases nn <;> kernel_rfl) (X := Nat × List Int)
    (fun x => [.i d, .b fin, .n 0, .n k, .i (k : Int), .i (x.1 : Int), .l xs, .l x.2]) (fun x => x.1 ≤ k ∧ (okA d x.2 = true ∧ x.2.length ≤ x.1)) (fun x => k - x.1) (fun x => (.exit 0, [.i d, .b fin, .l xs, .l (mdR d ((xs.take k).drop x.1) x.2)])) ?_
  rintro ⟨i, out⟩ ⟨hi, ho, hl⟩
  dsimp only at hi ho hl ⊢
  have h := m1_round nA nn rd d (k : Int) (i : Int) k fin xs out
  rcases Nat.lt_or_ge i k with hlt | hge
  · have hx : i < xs.length := by omega
    have hn := allU_get hu hx
    rw [decide_eq_true (show (i : Int) < (k : Int) by omega), cond_true, decide_eq_true (show 0 ≤ (i : Int) ∧ (i : Int) < Int.ofNat k ∧ 0 + k ≤ xs.length from ⟨by omega, by show (i : Int) < (k : Int); omega, by omega⟩), cond_true, addS_eq, show (i : Int).toNat = i from rfl, Nat.zero_add, List.getElem?_eq_getElem hx] at h
    dsimp only at h
    rw [m1G_is ho (by omega) hn] at h
    have hd : (xs.take k).drop i = xs[i] :: (xs.take k).drop (i + 1) := by
      rw [List.drop_eq_getElem_cons (show i < (xs.take k).length by rw [List.length_take]; omega), List.getElem_take]
    rw [hd]
    simp only [mdR]
    cases hg : goOn d out with
    | true =>
      rw [hg, cond_true, wr64 (by omega) (by omega)] at h
      refine ⟨_, _, _, h, codes0, .inl ⟨rfl, (i + 1, out ++ [pick (legV (fol d out)) xs[i]]), rfl, ⟨by dsimp only; omega, okA_snoc ho (by omega) (pick_u8 hg hn), by dsimp only; rw [List.length_append, List.length_singleton]; omega⟩, by dsimp only; omega, rfl⟩⟩
    | false =>
      rw [hg, cond_false] at h
      exact ⟨_, _, _, h, codes0, .inr ⟨by simp, rfl⟩⟩
  · rw [decide_eq_false (show ¬ (i : Int) < (k : Int) by omega), cond_false] at h
    refine ⟨_, _, _, h, codes0, .inr ⟨by simp, ?_⟩⟩
    rw [List.drop_eq_nil_of_le (by rw [List.length_take]; omega)]; rfl
theorem fnS_ok {d : Int} {fin : Bool} {out : List Int} (h : okA d out = true) (hl : out.length ≤ 1000) : okA d (fnS d fin out) = true ∧ (fnS d fin out).length ≤ out.length + 1 := by
  unfold fnS
  cases (fin && (decide (ovE (fol d out) = 0) && !ovB (fol d out))) with
  | true => exact ⟨okA_snoc h hl (by decide), by simp⟩
  | false => exact ⟨h, by simp⟩
theorem m2_loop (nn : Bool) (rd : Option Nat) (d : Int) (fin : Bool) (xs : List Int) : ∀ x : Nat × List Int, (x.1 ≤ 4 ∧ (okA d x.2 = true ∧ x.2.length ≤ 319 + x.1)) →
    SimC Tryd.prog 1 rd (.loop m2Lp) ((m2T nn).at [.i d, .b fin, .i (x.1 : Int), .l xs, .l x.2]) (.exit 2) ((m2X nn).at [.i d, .l xs, .l (fnR d fin (4 - x.1) x.2)]) := by
  refine loop_of_rounds (C := orcC nA (tabO chk ovr) plainL) (L := noLoops) (N := 100) (me := 14) (T := m2T nn) (T' := m2X nn) (orcC_ok tabO_ok plainL_ok) mixed noLoops_ok (by cases nn <;> kernel_rfl) (by cases nn <;> kernel_rfl) (X := Nat × List Int)
    (fun x => [.i d, .b fin, .i (x.1 : Int), .l xs, .l x.2]) (fun x => x.1 ≤ 4 ∧ (okA d x.2 = true ∧ x.2.length ≤ 319 + x.1)) (fun x => 4 - x.1) (fun x => (.exit 2, [.i d, .l xs, .l (fnR d fin (4 - x.1) x.2)])) ?_
  rintro ⟨i, out⟩ ⟨hi, ho, hl⟩
  dsimp only at hi ho hl ⊢
  have h := m2_round nA nn rd d (i : Int) fin xs out
  rcases Nat.lt_or_ge i 4 with hlt | hge
  · have hw : wr .i64 ((i : Int) + 1) = ((i + 1 : Nat) : Int) := by rw [wr64 (by omega) (by omega)]; omega
    obtain ⟨q1, q2⟩ := fnS_ok (fin := fin) ho (by omega)
    have hlen : (out ++ [(0 : Int)]).length * 2 ≤ 70368744177664 := by rw [List.length_append, List.length_singleton]; omega
    rw [decide_eq_true (show (i : Int) < 4 by omega), cond_true, show nA.K d out = true from ho, cond_true, show nA.OE d out = ovE (fol d out) from rfl, show nA.OB d out = ovB (fol d out) from rfl, hw,
      decide_eq_true hlen, cond_true] at h
    have hf : fnR d fin (4 - i) out = fnR d fin (4 - (i + 1)) (fnS d fin out) := by rw [show 4 - i = (4 - (i + 1)) + 1 by omega]; rfl
    have key : roundT Tryd.prog (orcC nA (tabO chk ovr) plainL) noLoops 100 1 rd 14 m2Lp (m2T nn) (m2X nn) [.i d, .b fin, .i (i : Int), .l xs, .l out] = some (.normal, [.i d, .b fin, .i ((i + 1 : Nat) : Int), .l xs, .l (fnS d fin out)], []) := by
      rw [h]; unfold fnS
      cases fin <;> cases decide (ovE (fol d out) = 0) <;> cases ovB (fol d out) <;> rfl
    exact ⟨_, _, _, key, codes0, .inl ⟨rfl, (i + 1, fnS d fin out), rfl, ⟨by dsimp only; omega, q1, by dsimp only; omega⟩, by dsimp only; omega, by dsimp only; rw [hf]⟩⟩
  · rw [decide_eq_false (show ¬ (i : Int) < 4 by omega), cond_false] at h
    refine ⟨_, _, _, h, codes0, .inr ⟨by simp, ?_⟩⟩
    rw [show 4 - i = 0 by omega]; rfl
end Go.Proofs.YtnhilofmafjdpaaDoor
