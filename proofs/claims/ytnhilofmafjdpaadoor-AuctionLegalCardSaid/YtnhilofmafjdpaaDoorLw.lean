/- Chapter 9: the law AuctionLegal. -/
import Derived.Test.YtnhilofmafjdpaaDoorKit3
import Derived.Test.YtnhilofmafjdpaaDoorSem
namespace Go.Proofs.YtnhilofmafjdpaaDoor
open Go Go.Eng
noncomputable def lwT1 (E A n : Int) (R Z : RT) : RT := bif !decide (E = 0) then bif !decide (A = n) then R else Z else Z
noncomputable def lwT2 (e E A n : Int) (R Z : RT) : RT := bif decide (e = 90) then bif decide (E = 0) then R else lwT1 E A n R Z else lwT1 E A n R Z
noncomputable def lwG (K : NK) (d e c : Int) (l g : List Int) (R Z : RT) : RT := bif K.KL l then bif decide ((l ++ [c]).length * 2 ≤ 70368744177664) then bif K.N.K d (l ++ [c]) then
  bif decide (e = 0) then bif K.KL g then bif !eqB (decide (K.N.E d (l ++ [c]) = 0)) (decide (0 ≤ K.IX c g)) then R else lwT2 e (K.N.E d (l ++ [c])) (K.N.A d (l ++ [c])) (Int.ofNat l.length) R Z else none
  else lwT2 e (K.N.E d (l ++ [c])) (K.N.A d (l ++ [c])) (Int.ofNat l.length) R Z else none else none else none
theorem lw_round (K : NK) (nn : Bool) (rd : Option Nat) (b : Bool) (d e i : Int) (tl : List ByteArray) (xs l g : List Int) : roundT Tryd.prog (orcK K emptyTab plainL) noLoops 100 2 rd 7 lwLp (lwT nn) (lwX nn) [.b b, .i d, .i e, .i i, .ss tl, .l xs, .l l, .l g] =
    bif decide (i < 256) then lwG K d e (wr .u8 i) l g (some (.ret, [.b false, .i e, .ss tl, .l xs, .l g], [])) (some (.normal, [.b b, .i d, .i e, .i (wr .i64 (i + 1)), .ss tl, .l xs, .l l, .l g], [])) else some (.exit 0, [.b b, .i e, .ss tl, .l xs, .l g], []) := by cases nn <;> kernel_rfl
theorem lwG_true {d c : Int} {l : List Int} (hk : okA d l = true) (hl : l.length ≤ 1000) (hr : (fol d l).e = 0) (hc : 0 ≤ c ∧ c < 256) {R Z : RT} : lwG nK d (legE (fol d l)) c l (legV (fol d l)) R Z = Z := by
  have hn := okA_snoc hk hl hc
  have h1 : nK.KL l = true := decide_eq_true (by omega)
  have h2 : nK.KL (legV (fol d l)) = true := decide_eq_true (by have := legV_len (fol d l); omega)
  have hE : nK.N.E d (l ++ [c]) = chk (fol d l).s c := by
    show (fol d (l ++ [c])).e = _
    rw [fol_snoc hr]
    by_cases hb : chk (fol d l).s c = 0
    · rw [decide_eq_true hb, hb]; rfl
    · rw [decide_eq_false hb]; rfl
  have hA : chk (fol d l).s c ≠ 0 → nK.N.A d (l ++ [c]) = Int.ofNat l.length := by
    intro hb
    show (fol d (l ++ [c])).at_ = _
    rw [fol_snoc hr, decide_eq_false hb]; rfl
  have hI : decide (0 ≤ nK.IX c (legV (fol d l))) = decide (c ∈ legV (fol d l)) := by
    congr 1
    simp only [eq_iff_iff]
    exact idxR_mem _ 0
  have hT1 : lwT1 (chk (fol d l).s c) (nK.N.A d (l ++ [c])) (Int.ofNat l.length) R Z = Z := by
    unfold lwT1
    by_cases hb : chk (fol d l).s c = 0
    · rw [decide_eq_true hb]; rfl
    · rw [decide_eq_false hb, decide_eq_true (hA hb)]; rfl
  unfold lwG
  rw [h1, show nK.N.K d (l ++ [c]) = okA d (l ++ [c]) from rfl, hn, h2, hE, hI, decide_eq_true (show (l ++ [c]).length * 2 ≤ 70368744177664 by rw [List.length_append, List.length_singleton]; omega)]
  simp only [cond_true]
  cases ho : ovr (fol d l).s with
  | true =>
    have e1 : legE (fol d l) = 90 := by unfold legE; rw [decide_eq_true hr, ho]; rfl
    have hb : ¬ chk (fol d l).s c = 0 := by
      rcases Int.lt_or_le 37 c with h | h
      · rw [chk_big h]; omega
      · rw [chk_over ho h]; omega
    rw [e1]
    unfold lwT2
    rw [hT1, decide_eq_false hb]; rfl
  | false =>
    have e1 : legE (fol d l) = 0 := by unfold legE; rw [decide_eq_true hr, ho]; rfl
    have e2 : legV (fol d l) = lgl (fol d l).s := by unfold legV; rw [decide_eq_true hr, ho]; rfl
    have hm : decide (c ∈ lgl (fol d l).s) = decide (chk (fol d l).s c = 0) := by
      congr 1
      simp only [eq_iff_iff]
      refine ⟨fun h => (lgl_mem h).2.2, fun h => ?_⟩
      unfold lgl
      rw [List.mem_filter]
      refine ⟨?_, decide_eq_true h⟩
      simp only [calls38, List.mem_map, List.mem_range]
      have := (chk_open h).2
      exact ⟨c.toNat, by omega, by omega⟩
    rw [e1, e2, hm]
    unfold lwT2
    rw [hT1]
    cases decide (chk (fol d l).s c = 0) <;> rfl
theorem lw_loop (nn : Bool) (rd : Option Nat) (b : Bool) (d : Int) (tl : List ByteArray) (xs l : List Int) (hk : okA d l = true) (hl : l.length ≤ 1000) (hr : (fol d l).e = 0) : ∀ i : Nat, i ≤ 256 →
    SimC Tryd.prog 2 rd (.loop lwLp) ((lwT nn).at [.b b, .i d, .i (legE (fol d l)), .i (i : Int), .ss tl, .l xs, .l l, .l (legV (fol d l))]) (.exit 0) ((lwX nn).at [.b b, .i (legE (fol d l)), .ss tl, .l xs, .l (legV (fol d l))]) := by
  refine loop_of_rounds (C := orcK nK emptyTab plainL) (L := noLoops) (N := 100) (me := 7) (T := lwT nn) (T' := lwX nn) (orcK_ok emptyTab_ok plainL_ok) mixed noLoops_ok (by cases nn <;> kernel_rfl) (by cases nn <;> kernel_rfl) (X := Nat)
    (fun i => [.b b, .i d, .i (legE (fol d l)), .i (i : Int), .ss tl, .l xs, .l l, .l (legV (fol d l))]) (fun i => i ≤ 256) (fun i => 256 - i) (fun _ => (.exit 0, [.b b, .i (legE (fol d l)), .ss tl, .l xs, .l (legV (fol d l))])) ?_
  intro i hi
  have h := lw_round nK nn rd b d (legE (fol d l)) (i : Int) tl xs l (legV (fol d l))
  rcases Nat.lt_or_ge i 256 with hlt | hge
  · rw [decide_eq_true (show (i : Int) < 256 by omega), cond_true, wr_u8_id (by omega), lwG_true hk hl hr (by omega), wr64 (by omega) (by omega)] at h
    exact ⟨_, _, _, h, codes0, .inl ⟨rfl, i + 1, rfl, by omega, by omega, rfl⟩⟩
  · rw [decide_eq_false (show ¬ (i : Int) < 256 by omega), cond_false] at h
    exact ⟨_, _, _, h, codes0, .inr ⟨by simp, rfl⟩⟩
noncomputable def lwTree (C : Int → Int → List Int → List Int → Bool) (nn : Bool) : List PV → Fin
  | [.b b, .i d, .i e, .i i, .ss tl, .l xs, .l l, .l g] => .br (decide (i = 0) && C d e l g) (.leaf (.exit 0) ((lwX nn).at [.b b, .i e, .ss tl, .l xs, .l g])) .no
  | _ => .no
def lwC (d e : Int) (l g : List Int) : Bool := (okA d l && decide (l.length ≤ 1000 ∧ (fol d l).e = 0 ∧ e = legE (fol d l))) && decide (g = legV (fol d l))
noncomputable def lwL (C : Int → Int → List Int → List Int → Bool) (nn : Bool) : Loops := sums (fun n => match n with | 6 => some (lsumF 2 (lwT nn) lwLp (lwTree C nn)) | _ => none)
theorem lwL_ok (nn : Bool) : loopsOk Tryd.prog (lwL lwC nn) := by
  intro n g hg
  simp only [lwL, sums] at hg
  split at hg
  · cases hg
    refine lsumF_ok (by cases nn <;> kernel_rfl) (fun rd ps e1 st1 hq => ?_)
    unfold lwTree at hq
    split at hq
    · rename_i b d e i tl xs l g
      simp only [Fin.pick] at hq
      cases hc : (decide (i = 0) && lwC d e l g) with
      | false => rw [hc] at hq; cases hq
      | true =>
        rw [hc, cond_true] at hq
        simp only [lwC, Bool.and_eq_true, decide_eq_true_eq] at hc
        obtain ⟨rfl, ⟨h1, h2, h3, rfl⟩, rfl⟩ := hc
        cases hq
        exact lw_loop nn rd b d tl xs l h1 h2 h3 0 (Nat.zero_le _)
    · cases hq
  · cases hg
theorem legal_law_eval (K : NK) (C : Int → Int → List Int → List Int → Bool) (nn fin : Bool) (d : Int) (xs : List Int) : evalFn Tryd.prog (orcK K emptyTab plainL) (lwL C nn) 100 7 Tryd.f7 [.int .u8 d, .gs 1, .bool fin] (gH ++ [.rs nn 1 (.ints .u8 xs)]) (fun v _ => some v) =
    bif pB (textsL = textsL) then bif K.MK d xs then bif K.N.K (d.tmod 4) (K.MD d xs fin) then
      cond (codesB [(lwLp, lwLp)]) (bif decide ((0 : Int) = 0) && C (d.tmod 4) (K.N.GE (d.tmod 4) (K.MD d xs fin)) (K.MD d xs fin) (K.N.GV (d.tmod 4) (K.MD d xs fin)) then
        bif decide (K.N.GE (d.tmod 4) (K.MD d xs fin) = 0) then some (.bool true) else bif decide (K.N.GE (d.tmod 4) (K.MD d xs fin) = 90) then some (.bool (decide (Int.ofNat (K.N.GV (d.tmod 4) (K.MD d xs fin)).length = 0))) else some (.bool false) else none) none else none else none else none := by cases nn <;> kernel_rfl
theorem legal_law_true (nn fin : Bool) {d : Int} {xs : List Int} (hd : 0 ≤ d) (hu : allU xs = true) : evalFn Tryd.prog (orcK nK emptyTab plainL) (lwL lwC nn) 100 7 Tryd.f7 [.int .u8 d, .gs 1, .bool fin] (gH ++ [.rs nn 1 (.ints .u8 xs)]) (fun v _ => some v) = some (.bool true) := by
  obtain ⟨hok, hlen⟩ := made_ok hd hu fin
  have hr := made_right hd hu fin
  have hMK : nK.MK d xs = true := by show mK d xs = true; unfold mK; rw [hu, decide_eq_true hd]; rfl
  rw [legal_law_eval, pB_iff.2 rfl, hMK, lpCd, show nK.MD d xs fin = made d xs fin from rfl, show nK.N.K (d.tmod 4) (made d xs fin) = okA (d.tmod 4) (made d xs fin) from rfl, hok,
    show nK.N.GE (d.tmod 4) (made d xs fin) = legE (fol (d.tmod 4) (made d xs fin)) from rfl, show nK.N.GV (d.tmod 4) (made d xs fin) = legV (fol (d.tmod 4) (made d xs fin)) from rfl]
  have hC : lwC (d.tmod 4) (legE (fol (d.tmod 4) (made d xs fin))) (made d xs fin) (legV (fol (d.tmod 4) (made d xs fin))) = true := by
    simp only [lwC, Bool.and_eq_true, decide_eq_true_eq]
    exact ⟨⟨hok, by omega, hr, trivial⟩, trivial⟩
  rw [hC]
  cases ho : ovr (fol (d.tmod 4) (made d xs fin)).s with
  | false =>
    have e1 : legE (fol (d.tmod 4) (made d xs fin)) = 0 := by unfold legE; rw [decide_eq_true hr, ho]; rfl
    rw [e1]; rfl
  | true =>
    have e1 : legE (fol (d.tmod 4) (made d xs fin)) = 90 := by unfold legE; rw [decide_eq_true hr, ho]; rfl
    have e2 : legV (fol (d.tmod 4) (made d xs fin)) = [] := by unfold legV; rw [decide_eq_true hr, ho]; rfl
    rw [e1, e2]; rfl
end Go.Proofs.YtnhilofmafjdpaaDoor
