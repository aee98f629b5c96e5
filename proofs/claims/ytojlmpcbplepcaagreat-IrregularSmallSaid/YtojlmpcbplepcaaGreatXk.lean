/- Texts merged: Xk, Xl. -/
import Derived.Test.YtojlmpcbplepcaaGreatXh
import Derived.Test.YtojlmpcbplepcaaGreatCt2
import Derived.Test.YtojlmpcbplepcaaGreatRc
/- Chapter 10: the reference's Legal answers as the program's. -/
namespace Go.Proofs.YtojlmpcbplepcaaGreat
open Go Go.Eng
theorem wr_u8_nonneg (x : Int) : 0 ≤ wr .u8 x := by
  have : wr .u8 x = x % 256 := rfl
  rw [this]; omega
def crB (s : CD) : Bool := dkB s && (byB s.h && ((byB s.a.a && (byB s.a.b && (byB s.a.c && byB s.a.d))) && (byB s.f.a && (byB s.f.b && (byB s.f.c && byB s.f.d)))))
theorem crB_dk {s : CD} (h : crB s = true) : dkB s = true := by unfold crB at h; simp only [Bool.and_eq_true] at h; exact h.1
theorem by_rg {x : Int} (h : byB x = true) : 0 ≤ x ∧ x < 256 := of_decide_eq_true h
theorem crB_h {s : CD} (h : crB s = true) : 0 ≤ s.h ∧ s.h < 256 := by unfold crB at h; simp only [Bool.and_eq_true] at h; exact by_rg h.2.1
theorem crB_f {s : CD} (h : crB s = true) (k : Nat) : 0 ≤ s.f.at k ∧ s.f.at k < 256 := by
  unfold crB at h; simp only [Bool.and_eq_true] at h
  obtain ⟨_, _, _, h1, h2, h3, h4⟩ := h
  match k with
  | 0 => exact by_rg h1
  | 1 => exact by_rg h2
  | 2 => exact by_rg h3
  | _ + 3 => exact by_rg h4
theorem filter_one {l : List Int} (hn : l.Nodup) {v : Int} (hv : v ∈ l) {f : Int → Bool} (hf : ∀ x, x ∈ l → (f x = true ↔ x = v)) : l.filter f = [v] := by
  induction l with
  | nil => cases hv
  | cons y r ih =>
    rw [List.nodup_cons] at hn
    rcases List.mem_cons.1 hv with rfl | hv
    · rw [List.filter_cons_of_pos ((hf v (by simp)).2 rfl)]
      congr 1
      rw [List.filter_eq_nil_iff]
      intro x hx he
      have := (hf x (List.mem_cons_of_mem _ hx)).1 he
      subst this
      exact hn.1 hx
    · rw [List.filter_cons_of_neg]
      · exact ih hn.2 hv fun x hx => hf x (List.mem_cons_of_mem _ hx)
      · intro he
        have := (hf y (by simp)).1 he
        subst this
        exact hn.1 hv
theorem c38_nodup : calls38.Nodup := by unfold calls38; decide
theorem c38_in {x : Int} (h : 0 ≤ x ∧ x ≤ 37) : x ∈ calls38 := by
  unfold calls38
  rw [List.mem_map]
  exact ⟨x.toNat, by rw [List.mem_range]; omega, by omega⟩
theorem c38_rg {x : Int} (h : x ∈ calls38) : 0 ≤ x ∧ x ≤ 37 := by
  unfold calls38 at h
  rw [List.mem_map] at h
  obtain ⟨n, h1, rfl⟩ := h
  rw [List.mem_range] at h1
  omega
theorem op_zero {s : CD} {xs ac : List Int} (h : opI s xs ac = 0) : rgtI s xs ac = true ∧ ovI s.d xs = false := by
  unfold opI at h
  cases h1 : rgtI s xs ac with
  | false => rw [h1] at h; cases h
  | true =>
    cases h2 : ovI s.d xs with
    | false => exact ⟨rfl, rfl⟩
    | true => rw [h1, h2] at h; cases h
theorem ps_at {α : Type} (xs : List Int) (hl : xs.length ≤ 100000) (A B : Option α) : (bif decide (Int.ofNat xs.length = 0) then A else atU xs (wr .i64 (Int.ofNat xs.length - 1)) (fun v => bif decide (v = 0) then A else B)) = bif psI xs then A else B := by
  unfold psI
  have hof : Int.ofNat xs.length = (xs.length : Int) := rfl
  rcases Nat.eq_zero_or_pos xs.length with h | h
  · rw [decide_eq_true (show Int.ofNat xs.length = 0 by rw [hof]; omega), decide_eq_true h]; rfl
  · have hw : wr .i64 (Int.ofNat xs.length - 1) = ((xs.length - 1 : Nat) : Int) := by rw [wrL hl]; omega
    rw [decide_eq_false (show ¬ Int.ofNat xs.length = 0 by rw [hof]; omega), decide_eq_false (show ¬ xs.length = 0 by omega), hw, cond_false, atU_at (show xs.length - 1 < xs.length by omega), getD_el (show xs.length - 1 < xs.length by omega), Bool.false_or]
theorem legal_rest {s : CD} {xs ac : List Int} (h : okL xs = true) (hb : crB s = true) (ho : opI s xs ac = 0) {k : Nat} (hk : tN s xs = k) :
    lgsI s xs = bif !decide (s.p.at k = 0) then [0] else bif decide (0 < s.a.at k) && (psI xs && rfrI xs (wr .u8 (s.a.at k - 1))) then [wr .u8 (s.a.at k - 1)] else rlL s xs := by
  obtain ⟨hr, hov⟩ := op_zero ho
  obtain ⟨_, hl4, _, g, _⟩ := rgt_gc h (crB_dk hb) hr
  have hl := okL_len h
  have fr : ∀ x : Int, 0 ≤ x → rfrI xs x = frI s.d xs x := fun x hx => free_gi g hl hov hx
  rw [fr _ (wr_u8_nonneg _)]
  unfold lgsI lgI demI rlL rlB
  rw [hk]
  cases hp : decide (s.p.at k = 0) with
  | false =>
    simp only [Bool.not_false, cond_true]
    refine filter_one c38_nodup (c38_in (by omega)) fun x hx => ?_
    rw [Bool.and_eq_true, decide_eq_true_eq]
    constructor
    · exact fun h => h.2
    · intro h; subst h; exact ⟨g.pass hov, rfl⟩
  | true =>
    simp only [Bool.not_true, cond_false]
    cases ha : (decide (0 < s.a.at k) && (psI xs && frI s.d xs (wr .u8 (s.a.at k - 1)))) with
    | true =>
      simp only [cond_true]
      simp only [Bool.and_eq_true] at ha
      refine filter_one c38_nodup (c38_in ⟨wr_u8_nonneg _, (g.free ha.2.2).2⟩) fun x hx => ?_
      rw [Bool.and_eq_true, decide_eq_true_eq]
      constructor
      · exact fun h => h.2
      · intro h; subst h; exact ⟨ha.2.2, rfl⟩
    | false =>
      simp only [cond_false]
      refine List.filter_congr fun x hx => ?_
      have hx0 := c38_rg hx
      rw [fr x hx0.1]
      have hh := crB_h hb
      by_cases h0 : s.h = 0
      · rw [decide_eq_true h0, decide_eq_false (show ¬ 0 < s.h by omega)]; rfl
      · rw [decide_eq_false h0, decide_eq_true (show 0 < s.h by omega)]; rfl
theorem tu_k {s : CD} {xs ac : List Int} (h : okL xs = true) (hd : dkB s = true) : ∃ k : Nat, k < 4 ∧ tuV s xs ac = (k : Int) ∧ (opI s xs ac = 0 → tN s xs = k) := by
  unfold tuV
  by_cases ho : opI s xs ac = 0
  · rw [decide_eq_true ho, cond_true]
    obtain ⟨h1, h2⟩ := tN_lt s xs h (of_decide_eq_true hd)
    exact ⟨tN s xs, h2, h1.symm ▸ rfl, fun _ => rfl⟩
  · rw [decide_eq_false ho]
    exact ⟨0, by omega, rfl, fun h => absurd h ho⟩
theorem all74_is {s : CD} {xs ac : List Int} {k : Nat} (h : okL xs = true) (hc : lenOk ac = true) (hb : crB s = true) (hk : tuV s xs ac = (k : Int)) (hk2 : opI s xs ac = 0 → tN s xs = k) : all74 nH rlL k s xs ac = ansL (opI s xs ac) xs ac (lgV s xs ac) := by
  have hl := okL_len h
  have hC : nH.C s xs ac = true := by unfold NH.C; rw [show nH.R.OK xs = true from h, show nH.CK ac = true from hc, show nH.DK s = true from crB_dk hb]; rfl
  unfold all74
  rw [hC, show nH.TV s xs ac = tuV s xs ac from rfl, decide_eq_true hk, show nH.OP s xs ac = opI s xs ac from rfl, ps_at xs hl]
  unfold again74 loop74
  rw [show nH.R.OK xs = true from h, show ∀ x, nH.R.FR xs x = rfrI xs x from fun _ => rfl, lpCd10, pB_iff.2 ⟨rfl, rfl, h⟩]
  unfold lgV
  by_cases ho : opI s xs ac = 0
  · rw [legal_rest h hb ho (hk2 ho), decide_eq_true ho, ho]
    cases decide (s.p.at k = 0) <;> cases decide (0 < s.a.at k) <;> cases psI xs <;> cases rfrI xs (wr .u8 (s.a.at k - 1)) <;> rfl
  · rw [decide_eq_false ho]; rfl
theorem f74 (n1 n2 : Bool) {s : CD} {xs ac : List Int} (h : okL xs = true) (hc : lenOk ac = true) (hb : crB s = true) : FnOK Tryz.prog 17 [.agg (s.vs (.gs 0) (.gs 1))] (crsH n1 n2 xs ac) (.tuple [.gs 2, .int .i64 (opI s xs ac)]) (crsH n1 n2 xs ac ++ [.grow false 5 1 (.ints .u8 (lgV s xs ac))]) := by
  obtain ⟨k, k1, k2, k3⟩ := tu_k (ac := ac) h (crB_dk hb)
  have e := all74_is h hc hb k2 k3
  have main : ∀ j : Int, evalFn Tryz.prog (orcT73 nH j) (L74 rlL) 100 17 Tryz.f17 [.agg (s.vs (.gs 0) (.gs 1))] (crsH false false xs ac) (ansT lstA 2) = ansL (opI s xs ac) xs ac (lgV s xs ac) → FnOK Tryz.prog 17 [.agg (s.vs (.gs 0) (.gs 1))] (crsH n1 n2 xs ac) (.tuple [.gs 2, .int .i64 (opI s xs ac)]) (crsH n1 n2 xs ac ++ [.grow false 5 1 (.ints .u8 (lgV s xs ac))]) := fun j he =>
    FnOK.hard (h0 := crsH false false xs ac) rfl (fn_ans (orcG_ok (h73_ok j)) mixed Tryz.func17 L74_ok (by kernel_rfl) he codesNil rfl)
  match k, k1 with
  | 0, _ => exact main 0 ((e74_0 nH rlL s xs ac).trans e)
  | 1, _ => exact main 1 ((e74_1 nH rlL s xs ac).trans e)
  | 2, _ => exact main 2 ((e74_2 nH rlL s xs ac).trans e)
  | 3, _ => exact main 3 ((e74_3 nH rlL s xs ac).trans e)
  | n + 4, h => exact absurd h (by omega)
end Go.Proofs.YtojlmpcbplepcaaGreat

/- Chapter 10: the reference's Kind. -/
namespace Go.Proofs.YtojlmpcbplepcaaGreat
open Go Go.Eng
structure NZ where
  H : NH
  CB : CD → Bool
  LV : CD → List Int → List Int → List Int
def nZ : NZ := ⟨nH, crB, lgV⟩
def g74 (N : NZ) : CH
  | [.agg l], [.rs _ 1 (.ints .u8 xs), .rs _ 1 (.ints .i64 ac)] => match ofCrs l with
    | some (s, .gs 0, .gs 1) => some (N.H.C s xs ac && N.CB s, .tuple [.gs 2, .int .i64 (N.H.OP s xs ac)], [.grow false 5 1 (.ints .u8 (N.LV s xs ac))])
    | _ => none
  | _, _ => none
theorem g74_ok : cOk 17 (g74 nZ) := by
  intro args hp c v nb hq hc
  unfold g74 at hq
  split at hq
  · split at hq
    · rename_i s hs
      cases hq
      simp only [Bool.and_eq_true] at hc
      obtain ⟨h1, h2, h3⟩ := C_ok hc.1
      rw [ofCrs_ok hs]
      exact ⟨.of Tryz.func17 (by kernel_rfl), f74 _ _ h1 h2 hc.2⟩
    · cases hq
  · cases hq
def d82 : FuncId → Bool := fun f => Nat.beq f 25 || (Nat.beq f 17 || Nat.beq f 56)
def h82 (N : NZ) : HTab := hTG N.H.R (addH 25 (g85 N.H) (addH 17 (g74 N) (addH 56 (g99 N.H) emptyH)))
theorem h82_ok : HTabOk Tryz.prog (h82 nZ) := hTG_ok (addH_ok g85_ok (addH_ok g74_ok (addH_ok g99_ok emptyH_ok)))
def two82 (k e : Int) : Option V := some (.tuple [.int .u8 k, .int .i64 e])
noncomputable def dbl82 (N : NZ) (xs : List Int) (x : Int) : Option V := bif decide (x = 1) then (bif N.H.R.OK xs then bif !N.H.R.FR xs x then two82 2 0 else two82 7 0 else none) else bif decide (x = 2) then (bif N.H.R.OK xs then bif !N.H.R.FR xs x then two82 2 0 else two82 7 0 else none) else two82 7 0
noncomputable def all82 (N : NZ) (s : CD) (xs ac : List Int) (y x : Int) : Option V := bif N.H.C s xs ac then bif !N.H.RG s xs ac then two82 0 100 else bif decide (3 < y) then two82 0 2 else bif decide (37 < x) then two82 0 80 else
  bif N.H.C s xs ac && N.CB s then bif !decide (N.H.OP s xs ac = 0) then two82 6 0 else
    bif decide (N.H.MK s.d (Int.ofNat xs.length) = (wr .u8 (y + 3)).tmod 4) then two82 3 0 else bif decide (N.H.MK s.d (Int.ofNat xs.length) = (wr .u8 (y + 2)).tmod 4) then two82 4 0 else bif decide (N.H.MK s.d (Int.ofNat xs.length) = (wr .u8 (y + 1)).tmod 4) then two82 5 0 else
    bif N.H.R.OK (N.LV s xs ac) then bif N.H.R.AM (N.LV s xs ac) x then two82 0 0 else
      bif N.H.R.IB x then (bif N.H.R.OK xs then bif decide (x ≤ N.H.R.HG xs) then two82 1 0 else dbl82 N xs x else none) else dbl82 N xs x
    else none else none else none
theorem e82 (N : NZ) (s : CD) (xs ac : List Int) (y x : Int) : evalFn Tryz.prog (orcG N.H.R (domG d82) (h82 N)) noLoops 100 19 Tryz.f19 [.agg (s.vs (.gs 0) (.gs 1)), .int .u8 y, .int .u8 x] (crsH false false xs ac) (fun v _ => some v) = all82 N s xs ac y x := by kernel_rfl
theorem lgV_ok (s : CD) (xs ac : List Int) : okL (lgV s xs ac) = true := by
  unfold lgV
  cases decide (opI s xs ac = 0) with
  | false => rfl
  | true =>
    rw [cond_true]
    refine okL_iff.2 ⟨?_, ?_⟩
    · have := List.length_filter_le (lgI s xs) calls38
      rw [c38_len] at this
      unfold lgsI
      omega
    · rw [allU_iff]
      intro x hx
      have := c38_rg (List.mem_filter.1 hx).1
      omega
theorem am_lg {s : CD} {xs ac : List Int} (ho : opI s xs ac = 0) {x : Int} (hx : 0 ≤ x ∧ x ≤ 37) : amB (lgV s xs ac) x = lgI s xs x := by
  unfold lgV
  rw [decide_eq_true ho, cond_true, show amB (lgsI s xs) x = accB (lgsI s xs) x from rfl]
  cases hl : lgI s xs x with
  | true => exact accB_iff.2 (List.mem_filter.2 ⟨c38_in hx, hl⟩)
  | false =>
    cases ha : accB (lgsI s xs) x with
    | false => rfl
    | true => have := (List.mem_filter.1 (accB_iff.1 ha)).2; rw [hl] at this; cases this
theorem low_hg (xs : List Int) (x : Int) : lwI xs x = (isBid x && decide (x ≤ lbI xs)) := by
  unfold lwI lbI
  cases hb : isBid x with
  | false => rfl
  | true =>
    have := bid3 hb
    cases hasB xs with
    | true => rfl
    | false => rw [cond_false, decide_eq_false (show ¬ x ≤ 0 by omega)]; rfl
theorem all82_is {s : CD} {xs ac : List Int} {y x : Int} (h : okL xs = true) (hc : lenOk ac = true) (hb : crB s = true) (hy : byB y = true) (hx : byB x = true) : all82 nZ s xs ac y x = two82 (kdI s xs ac y x) (keI s xs ac y x) := by
  have hl := okL_len h
  have hd := crB_dk hb
  have hy0 := by_rg hy
  have hx0 := by_rg hx
  have hC : nZ.H.C s xs ac = true := by unfold NH.C; rw [show nZ.H.R.OK xs = true from h, show nZ.H.CK ac = true from hc, show nZ.H.DK s = true from hd]; rfl
  unfold all82 kdI keI
  rw [hC, show nZ.H.RG s xs ac = rgtI s xs ac from rfl, show nZ.CB s = true from hb, show nZ.H.OP s xs ac = opI s xs ac from rfl, show nZ.LV s xs ac = lgV s xs ac from rfl, show nZ.H.R.OK (lgV s xs ac) = true from lgV_ok s xs ac,
    show nZ.H.R.AM (lgV s xs ac) x = amB (lgV s xs ac) x from rfl, show nZ.H.R.IB x = isBid x from rfl, show nZ.H.R.OK xs = true from h, show nZ.H.R.HG xs = lbI xs from rfl, show nZ.H.MK s.d (Int.ofNat xs.length) = trnI s xs from rfl]
  cases hr : rgtI s xs ac with
  | false => rfl
  | true =>
    by_cases c1 : 3 < y
    · rw [decide_eq_true c1]; rfl
    · rw [decide_eq_false c1]
      by_cases c2 : x ≤ 37
      · rw [decide_eq_true c2, decide_eq_false (show ¬ 37 < x by omega)]
        cases ho : ovI s.d xs with
        | true =>
          have : opI s xs ac = 101 := by unfold opI; rw [hr, ho]; rfl
          rw [this]; rfl
        | false =>
          have ho0 : opI s xs ac = 0 := by unfold opI; rw [hr, ho]; rfl
          obtain ⟨t1, t2⟩ := tN_lt s xs h (of_decide_eq_true hd)
          have ht : trnI s xs = (tN s xs : Int) := t1
          have g := (rgt_gc h hd hr).2.2.2.1
          have hrl : rlI s xs y = (y + 4 - (tN s xs : Int)) % 4 := by
            unfold rlI
            rw [ht, wr_u8_id (n := y + 4) (by omega), wr_u8_id (by omega), Int.tmod_eq_emod_of_nonneg (by omega)]
          have e3 : (wr .u8 (y + 3)).tmod 4 = (y + 3) % 4 := by rw [wr_u8_id (by omega), Int.tmod_eq_emod_of_nonneg (by omega)]
          have e2 : (wr .u8 (y + 2)).tmod 4 = (y + 2) % 4 := by rw [wr_u8_id (by omega), Int.tmod_eq_emod_of_nonneg (by omega)]
          have e1 : (wr .u8 (y + 1)).tmod 4 = (y + 1) % 4 := by rw [wr_u8_id (by omega), Int.tmod_eq_emod_of_nonneg (by omega)]
          rw [ho0, e3, e2, e1, ht, hrl]
          have q3 : decide ((tN s xs : Int) = (y + 3) % 4) = decide ((y + 4 - (tN s xs : Int)) % 4 = 1) := by rw [Bool.eq_iff_iff, decide_eq_true_eq, decide_eq_true_eq]; omega
          have q2 : decide ((tN s xs : Int) = (y + 2) % 4) = decide ((y + 4 - (tN s xs : Int)) % 4 = 2) := by rw [Bool.eq_iff_iff, decide_eq_true_eq, decide_eq_true_eq]; omega
          have q1 : decide ((tN s xs : Int) = (y + 1) % 4) = decide ((y + 4 - (tN s xs : Int)) % 4 = 3) := by rw [Bool.eq_iff_iff, decide_eq_true_eq, decide_eq_true_eq]; omega
          rw [q3, q2, q1, am_lg ho0 ⟨hx0.1, c2⟩]
          have ed : dbl82 nZ xs x = bif (decide (x = 1) || decide (x = 2)) && !frI s.d xs x then two82 2 0 else two82 7 0 := by
            unfold dbl82
            rw [show nZ.H.R.OK xs = true from h, show nZ.H.R.FR xs x = rfrI xs x from rfl, free_gi g hl ho hx0.1]
            cases decide (x = 1) <;> cases decide (x = 2) <;> cases frI s.d xs x <;> rfl
          rw [ed]
          unfold kdO
          rw [low_hg]
          cases decide ((y + 4 - (tN s xs : Int)) % 4 = 1) with
          | true => rfl
          | false =>
            cases decide ((y + 4 - (tN s xs : Int)) % 4 = 2) with
            | true => rfl
            | false =>
              cases decide ((y + 4 - (tN s xs : Int)) % 4 = 3) with
              | true => rfl
              | false =>
                cases lgI s xs x <;> cases isBid x <;> cases decide (x ≤ lbI xs) <;> cases ((decide (x = 1) || decide (x = 2)) && !frI s.d xs x) <;> rfl
      · rw [decide_eq_false c2, decide_eq_true (show 37 < x by omega)]; rfl
theorem f82 (n1 n2 : Bool) {s : CD} {xs ac : List Int} {y x : Int} (h : okL xs = true) (hc : lenOk ac = true) (hb : crB s = true) (hy : byB y = true) (hx : byB x = true) : FnOK Tryz.prog 19 [.agg (s.vs (.gs 0) (.gs 1)), .int .u8 y, .int .u8 x] (crsH n1 n2 xs ac) (.tuple [.int .u8 (kdI s xs ac y x), .int .i64 (keI s xs ac y x)]) (crsH n1 n2 xs ac ++ []) :=
  crs_fn (orcG_ok h82_ok) noLoops_ok Tryz.func19 rfl ((e82 nZ s xs ac y x).trans (all82_is h hc hb hy hx)) n1 n2
end Go.Proofs.YtojlmpcbplepcaaGreat
