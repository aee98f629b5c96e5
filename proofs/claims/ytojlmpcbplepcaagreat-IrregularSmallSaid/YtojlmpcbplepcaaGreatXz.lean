/- Texts merged: Xz, Ya. -/
import Derived.Test.YtojlmpcbplepcaaGreatXy0
import Derived.Test.YtojlmpcbplepcaaGreatLeg
import Derived.Test.YtojlmpcbplepcaaGreatCt2
/- Chapter 10: the reference's Contract answers as the program's. -/
namespace Go.Proofs.YtojlmpcbplepcaaGreat
open Go Go.Eng
theorem rdB_some {xs : List Int} {dn z : Int} : ∀ {n j : Nat}, rdB xs dn z n = some j → j < n ∧ rdP xs dn z j = true ∧ ∀ i, i < j → rdP xs dn z i = false
  | 0, j, h => by cases h
  | n + 1, j, h => by
    rw [show rdB xs dn z (n + 1) = (match rdB xs dn z n with | some j => some j | none => bif rdP xs dn z n then some n else none) from rfl] at h
    cases hr : rdB xs dn z n with
    | some k =>
      rw [hr] at h
      cases h
      obtain ⟨h1, h2, h3⟩ := rdB_some hr
      exact ⟨by omega, h2, h3⟩
    | none =>
      rw [hr] at h
      cases hp : rdP xs dn z n with
      | false => rw [hp] at h; cases h
      | true =>
        rw [hp] at h
        cases h
        refine ⟨by omega, hp, fun i hi => ?_⟩
        exact rdB_none hr i hi
where
  rdB_none {xs : List Int} {dn z : Int} : ∀ {n : Nat}, rdB xs dn z n = none → ∀ i, i < n → rdP xs dn z i = false
  | 0, _, i, hi => by omega
  | n + 1, h, i, hi => by
    rw [show rdB xs dn z (n + 1) = (match rdB xs dn z n with | some j => some j | none => bif rdP xs dn z n then some n else none) from rfl] at h
    cases hr : rdB xs dn z n with
    | some k => rw [hr] at h; cases h
    | none =>
      rw [hr] at h
      cases hp : rdP xs dn z n with
      | true => rw [hp] at h; cases h
      | false =>
        rcases Nat.lt_or_ge i n with hi2 | hi2
        · exact rdB_none hr i hi2
        · rw [show i = n by omega]; exact hp
theorem rdB_is {xs : List Int} {dn z : Int} {n j : Nat} (hj : j < n) (hp : rdP xs dn z j = true) (hl : ∀ i, i < j → rdP xs dn z i = false) : rdB xs dn z n = some j := by
  cases hr : rdB xs dn z n with
  | none => have := rdB_some.rdB_none hr j hj; rw [hp] at this; cases this
  | some k =>
    obtain ⟨h1, h2, h3⟩ := rdB_some hr
    rcases Nat.lt_trichotomy k j with h | h | h
    · have := hl k h; rw [h2] at this; cases this
    · rw [h]
    · have := h3 j h; rw [hp] at this; cases this
theorem fdB_spec (xs : List Int) (dn : Int) (z : Nat) : ∀ (n i j : Nat), fdB xs dn z n i = some j → j ≤ z ∧ i ≤ j ∧ (j - i) % 2 = 0 ∧ (isBid (xs.getD j 0) && decide (dnZ (xs.getD j 0) = dn)) = true ∧ ∀ l, i ≤ l → l < j → (l - i) % 2 = 0 → (isBid (xs.getD l 0) && decide (dnZ (xs.getD l 0) = dn)) = false
  | 0, i, j, h => by cases h
  | n + 1, i, j, h => by
    unfold fdB at h
    by_cases hz : i ≤ z
    · rw [decide_eq_true hz, cond_true] at h
      cases hp : isBid (xs.getD i 0) && decide (dnZ (xs.getD i 0) = dn) with
      | true =>
        rw [hp] at h
        cases h
        exact ⟨hz, Nat.le_refl _, by omega, hp, fun l h1 h2 => by omega⟩
      | false =>
        rw [hp] at h
        obtain ⟨a1, a2, a3, a4, a5⟩ := fdB_spec xs dn z n (i + 2) j h
        refine ⟨a1, by omega, by omega, a4, fun l h1 h2 h3 => ?_⟩
        rcases Nat.eq_or_lt_of_le h1 with rfl | h1
        · exact hp
        · exact a5 l (by omega) h2 (by omega)
    · rw [decide_eq_false hz] at h; cases h
theorem fdB_hit (xs : List Int) (dn : Int) (z : Nat) (hb : isBid (xs.getD z 0) = true) (hd : dnZ (xs.getD z 0) = dn) : ∀ (n i : Nat), i ≤ z → (z - i) % 2 = 0 → z - i < 2 * n → ∃ j, fdB xs dn z n i = some j ∧ j ≤ z
  | 0, i, _, _, h => by omega
  | n + 1, i, hi, he, hn => by
    unfold fdB
    rw [decide_eq_true hi, cond_true]
    by_cases hz : i = z
    · rw [hz, hb, hd, decide_eq_true rfl]
      exact ⟨z, rfl, Nat.le_refl z⟩
    · cases hc : isBid (xs.getD i 0) && decide (dnZ (xs.getD i 0) = dn) with
      | true => exact ⟨i, rfl, hi⟩
      | false => exact fdB_hit xs dn z hb hd n (i + 2) (by omega) (by omega) (by omega)
theorem lbI_get {xs : List Int} (h : hasB xs = true) : xs.getD (lastI xs).toNat 0 = lbI xs := by unfold lbI; rw [h]; rfl
theorem par_is {z n : Nat} (hz : z ≤ 100000) (hn : n ≤ 100000) : decide ((wr .i64 ((z : Int) - n)).tmod 2 = 0) = decide (z % 2 = n % 2) := by
  rw [wr64 (by omega) (by omega), Bool.eq_iff_iff, decide_eq_true_eq, decide_eq_true_eq]
  rcases Nat.lt_or_ge z n with h | h
  · rw [show (z : Int) - n = -((n - z : Nat) : Int) by omega, Int.neg_tmod, Int.tmod_eq_emod_of_nonneg (by omega)]; omega
  · rw [Int.tmod_eq_emod_of_nonneg (by omega)]; omega
theorem rd_fd {xs : List Int} (hl : xs.length ≤ 100000) (hb : hasB xs = true) : rdB xs (dnZ (lbI xs)) (lastI xs) xs.length = fdB xs (dnZ (lbI xs)) (lastI xs).toNat ((lastI xs).toNat + 1) ((lastI xs).toNat % 2) := by
  obtain ⟨k, h1, h2, h3, h4⟩ := lastN_some _ hb
  have hk : lastI xs = (k : Int) := h2
  have e1 : xs.getD k 0 = lbI xs := by have := lbI_get hb; rw [hk] at this; exact this
  rw [hk, Int.toNat_natCast]
  obtain ⟨j, hj, _⟩ := fdB_hit xs (dnZ (lbI xs)) k h3 (by rw [e1]) (k + 1) (k % 2) (by omega) (by omega) (by omega)
  rw [hj]
  obtain ⟨a1, a2, a3, a4, a5⟩ := fdB_spec _ _ _ _ _ _ hj
  simp only [Bool.and_eq_true] at a4
  refine rdB_is (by omega) ?_ fun i hi => ?_
  · unfold rdP
    rw [par_is (by omega) (by omega), a4.1, a4.2, decide_eq_true (by omega)]; rfl
  · unfold rdP
    rw [par_is (by omega) (by omega)]
    by_cases hp : k % 2 = i % 2
    · have := a5 i (by omega) hi (by omega)
      cases h5 : isBid (xs.getD i 0) with
      | false => rfl
      | true => rw [h5, Bool.true_and] at this; rw [this]; rfl
    · rw [decide_eq_false hp, Bool.and_false, Bool.and_false]
theorem all83_is {s : CD} {xs ac : List Int} (h : okL xs = true) (hc : lenOk ac = true) (hd : dkB s = true) : all83 nW nCt s xs ac = some (cnV (conI s xs ac) (conE s xs ac)) := by
  have hl := okL_len h
  have hC : nW.Z.H.C s xs ac = true := by unfold NH.C; rw [show nW.Z.H.R.OK xs = true from h, show nW.Z.H.CK ac = true from hc, show nW.Z.H.DK s = true from hd]; rfl
  unfold all83 conI conE
  rw [hC, show nW.Z.H.OE s xs ac = ovrE s xs ac from rfl, show nW.Z.H.OB s xs ac = ovrB s xs ac from rfl, show nW.Z.H.R.OK xs = true from h, show nW.Z.H.R.LB xs = lbR xs from rfl]
  unfold ovrE ovrB opI
  cases hr : rgtI s xs ac with
  | false => rfl
  | true =>
    cases hv : ovI s.d xs with
    | false => rfl
    | true =>
      show (bif decide (lbR xs < 0) then some (cnV q0 0) else _) = some (cnV (conQ s xs) 0)
      unfold conQ lbR
      cases hb : hasB xs with
      | false => rfl
      | true =>
        obtain ⟨k, h1, h2, h3, h4⟩ := lastN_some _ hb
        have hk : lastI xs = (k : Int) := h2
        have e1 : xs.getD k 0 = lbI xs := by have := lbI_get hb; rw [hk] at this; exact this
        have hrd := rd_fd hl hb
        have ew : wr .i64 ((k : Int) + 1) = ((k + 1 : Nat) : Int) := by rw [wr64 (by omega) (by omega)]; omega
        simp only [cond_true]
        rw [hk] at hrd ⊢
        rw [decide_eq_false (show ¬ (k : Int) < 0 by omega), cond_false, atU_g h1, e1, show nW.BY (lbI xs) = true from lb_by xs, lpCd10, lpCd10, ew, pB_iff.2 (⟨trivial, by omega, by omega, hl⟩ : True ∧ 0 ≤ ((k + 1 : Nat) : Int) ∧ ((k + 1 : Nat) : Int) ≤ xs.length ∧ xs.length ≤ 100000), pB_iff.2 (⟨trivial, h⟩ : True ∧ okL xs = true)]
        simp only [cond_true]
        show some (cnV (fdQ s.d _ (rdB xs (dnZ (lbI xs)) (k : Int) xs.length)) 0) = _
        rw [hrd]; rfl
theorem f83 (n1 n2 : Bool) {s : CD} {xs ac : List Int} (h : okL xs = true) (hc : lenOk ac = true) (hd : dkB s = true) : FnOK Tryz.prog 21 [.agg (s.vs (.gs 0) (.gs 1))] (crsH n1 n2 xs ac) (cnV (conI s xs ac) (conE s xs ac)) (crsH n1 n2 xs ac ++ []) :=
  crs_fn (orcDo_ok h83_ok) L83_ok Tryz.func21 rfl ((e83 nW nCt s xs ac).trans (all83_is h hc hd)) n1 n2
def g83 (N : NW) (CQ : CD → List Int → List Int → Q4) (CE : CD → List Int → List Int → Int) : CH
  | [.agg l], [.rs _ 1 (.ints .u8 xs), .rs _ 1 (.ints .i64 ac)] => match ofCrs l with
    | some (s, .gs 0, .gs 1) => some (N.Z.H.C s xs ac, cnV (CQ s xs ac) (CE s xs ac), [])
    | _ => none
  | _, _ => none
theorem g83_ok : cOk 21 (g83 nW conI conE) := by
  intro args hp c v nb hq hc
  unfold g83 at hq
  split at hq
  · split at hq
    · rename_i s hs
      cases hq
      obtain ⟨h1, h2, h3⟩ := C_ok hc
      rw [ofCrs_ok hs]
      exact ⟨.of Tryz.func21 (by kernel_rfl), f83 _ _ h1 h2 h3⟩
    · cases hq
  · cases hq
def d84 : FuncId → Bool := domG fun f => Nat.beq f 21
def h84 (N : NW) (CQ : CD → List Int → List Int → Q4) (CE : CD → List Int → List Int → Int) : HTab := hTG N.Z.H.R (addH 21 (g83 N CQ CE) emptyH)
theorem h84_ok : HTabOk Tryz.prog (h84 nW conI conE) := hTG_ok (addH_ok g83_ok emptyH_ok)
theorem e84 (N : NW) (CQ : CD → List Int → List Int → Q4) (CE : CD → List Int → List Int → Int) (s : CD) (xs ac : List Int) : evalFn Tryz.prog (orcDo N d84 (h84 N CQ CE)) noLoops 100 23 Tryz.f23 [.agg (s.vs (.gs 0) (.gs 1))] (crsH false false xs ac) (fun v _ => some v) =
    bif N.Z.H.C s xs ac then bif !decide (CE s xs ac = 0) then ldF 0 (CE s xs ac) else bif decide ((CQ s xs ac).a = 0) then ldF 0 6 else ldC ((wr .u8 ((CQ s xs ac).d + 1)).tmod 4) s.f else none := by kernel_rfl
end Go.Proofs.YtojlmpcbplepcaaGreat

/- Chapter 10: the reference's Lead answers as the program's. -/
namespace Go.Proofs.YtojlmpcbplepcaaGreat
open Go Go.Eng
theorem mx_le : ∀ (l : List Int) (r : Int), (∀ x ∈ l, x ≤ 2) → r ≤ 2 → mxL l r ≤ 2
  | [], r, _, h => h
  | x :: q, r, hl, h => by
    show mxL q (bif decide (r < x) then x else r) ≤ 2
    refine mx_le q _ (fun y hy => hl y (List.mem_cons_of_mem _ hy)) ?_
    cases decide (r < x)
    · exact h
    · exact hl x (List.mem_cons_self ..)
theorem con_rg {s : CD} {xs ac : List Int} (h : okL xs = true) (hd : dkB s = true) (he : conE s xs ac = 0) :
    conI s xs ac = q0 ∨ (0 < (conI s xs ac).a ∧ (conI s xs ac).a ≤ 7 ∧ (conI s xs ac).b ≤ 4 ∧ (conI s xs ac).c ≤ 2 ∧ 0 ≤ (conI s xs ac).d ∧ (conI s xs ac).d ≤ 3) := by
  have hr : rgtI s xs ac = true := by
    unfold conE opI at he
    cases hr : rgtI s xs ac with
    | true => rfl
    | false => rw [hr] at he; cases he
  obtain ⟨hd0, hl4, _, g, _⟩ := rgt_gc h hd hr
  unfold conI
  rw [decide_eq_true he, cond_true]
  unfold conQ
  cases hb : hasB xs with
  | false => exact .inl rfl
  | true =>
    obtain ⟨k, h1, h2, h3, h4⟩ := lastN_some _ hb
    have hk : lastI xs = (k : Int) := h2
    have hbid := (lbI_range xs).1 hb
    have e1 := lbI_get hb
    rw [hk] at e1
    obtain ⟨j, hj, hjz⟩ := fdB_hit xs (dnZ (lbI xs)) k h3 (by rw [← e1]; rfl) (k + 1) (k % 2) (by omega) (by omega) (by omega)
    rw [hk, Int.toNat_natCast, cond_true, hj]
    have hlv := lv_pos hbid
    refine .inr ⟨?_, ?_, (dnz_rg _).2, mx_le _ _ (fun x hx => ?_) (show (0 : Int) ≤ 2 by omega), ?_⟩
    · show 0 < lvZ (lbI xs)
      unfold lvZ; rw [hbid, cond_true]; omega
    · show lvZ (lbI xs) ≤ 7
      unfold lvZ; rw [hbid, cond_true]; omega
    · obtain ⟨i, hi, hix⟩ := List.getElem_of_mem hx
      rw [List.getElem_drop] at hix
      rw [List.length_drop] at hi
      have hb2 := h4 (k + 1 + i) (by omega) (by omega)
      have hg : xs.getD (k + 1 + i) 0 = x := by rw [List.getD_eq_getElem?_getD, List.getElem?_eq_getElem (by omega)]; exact hix
      have hm : x ∈ xs := by rw [← hix]; exact List.getElem_mem _
      have := g.k x hm
      rw [hg] at hb2
      unfold isBid at hb2
      simp only [Bool.and_eq_false_iff, decide_eq_false_iff_not] at hb2
      omega
    · show 0 ≤ mkI s.d (j : Int) ∧ mkI s.d (j : Int) ≤ 3
      rw [mk_is hd0 (by omega)]; omega
theorem f84 (n1 n2 : Bool) {s : CD} {xs ac : List Int} (h : okL xs = true) (hc : lenOk ac = true) (hd : dkB s = true) : FnOK Tryz.prog 23 [.agg (s.vs (.gs 0) (.gs 1))] (crsH n1 n2 xs ac) (.tuple [.int .u8 (leadV s xs ac), .int .i64 (leadE s xs ac)]) (crsH n1 n2 xs ac ++ []) := by
  refine crs_fn (orcDo_ok (dom := d84) h84_ok) noLoops_ok Tryz.func23 rfl ((e84 nW conI conE s xs ac).trans ?_) n1 n2
  have hC : nW.Z.H.C s xs ac = true := by unfold NH.C; rw [show nW.Z.H.R.OK xs = true from h, show nW.Z.H.CK ac = true from hc, show nW.Z.H.DK s = true from hd]; rfl
  rw [hC]
  unfold leadV leadE ldF
  by_cases he : conE s xs ac = 0
  · rw [decide_eq_true he]
    simp only [Bool.not_true, cond_false, cond_true]
    show _ = some (V.tuple [.int .u8 (bif decide (ldE _ _ _ _ = 0) then s.f.at (ldV _ _ _ _).toNat else 0), .int .i64 (ldE _ _ _ _)])
    rcases con_rg (ac := ac) h hd he with hq | ⟨a1, a2, b1, c1, d1, d2⟩
    · rw [hq]; rfl
    · have hn : ldN (conI s xs ac).a (conI s xs ac).b (conI s xs ac).c (conI s xs ac).d = false := by
        unfold ldN
        rw [decide_eq_false (by omega), decide_eq_false (by omega), decide_eq_false (by omega), decide_eq_false (by omega)]; rfl
      unfold ldE ldV
      rw [hn, decide_eq_false (show ¬ (conI s xs ac).a = 0 by omega), wr_u8_id (by omega)]
      simp only [cond_false, Bool.or_self, decide_true, cond_true]
      have hi : 0 ≤ ((conI s xs ac).d + 1).tmod 4 ∧ ((conI s xs ac).d + 1).tmod 4 ≤ 3 := by rw [Int.tmod_eq_emod_of_nonneg (by omega)]; omega
      generalize ((conI s xs ac).d + 1).tmod 4 = i at *
      unfold ldC ldF
      have : i = 0 ∨ i = 1 ∨ i = 2 ∨ i = 3 := by omega
      rcases this with rfl | rfl | rfl | rfl <;> rfl
  · rw [decide_eq_false he]
    simp only [Bool.not_false, cond_true]
    rw [decide_eq_false he]; rfl
end Go.Proofs.YtojlmpcbplepcaaGreat
