/- Texts merged: Sp2, Md, Md2. -/
import Derived.Test.YtojlmpcbplepcaaRc
/- Chapter 10: step, plainly; its contract for right courses. -/
namespace Go.Proofs.Ytojlmpcbplepcaa
open Go Go.Eng
theorem GC.len {d : Int} {xs ac : List Int} (h : GC d xs ac) : ac.length ≤ xs.length := by
  induction h with
  | nil => exact Nat.le_refl _
  | free _ _ _ _ _ ih => rw [List.length_append, List.length_singleton]; omega
  | low _ _ _ ih => rw [List.length_append, List.length_append, List.length_singleton, List.length_singleton]; omega
def stepR (s : CD) (xs ac : List Int) (w y v : Int) : AR := bif decide (kdI s xs ac y v = 0) then ⟨0, doS (tN s xs) xs s v, xs ++ [v], ac⟩ else
  bif decide (w.tmod 3 = 0) && decide ((acI s xs ac y v).e = 0) then acI s xs ac y v else ⟨0, rfS (kdI s xs ac y v) s y.toNat v, xs, ac⟩
def seatI (t b : Int) : Int := (wr .u8 (t + (b.tmod 6).tmod 4)).tmod 4
def actI (s : CD) (xs ac : List Int) (x b w : Int) : Int × Int :=
  let t := bif decide (opI s xs ac = 0) then trnI s xs else 0
  bif decide (w.tmod 3 = 2) && (decide (opI s xs ac = 0) && decide (0 < (lgV s xs ac).length)) then (t, (lgV s xs ac).getD (x.tmod ((lgV s xs ac).length : Int)).toNat 0) else (seatI t b, x.tmod 38)
def stepI (s : CD) (xs ac : List Int) (x b w : Int) : AR := stepR s xs ac w (actI s xs ac x b w).1 (actI s xs ac x b w).2
structure StepOk (s : CD) (xs ac : List Int) (R : AR) : Prop where
  rc : RC R.s R.ys R.bc
  ho : HO R.s R.ys
  d : R.s.d = s.d
  ys : R.ys = xs ∨ ∃ r x, r ≤ 3 ∧ R.ys = xs ++ (List.replicate r 0 ++ [x])
  bc : R.bc = ac ∨ R.bc = ac ++ [(xs.length : Int)]
theorem StepOk.len {s : CD} {xs ac : List Int} {R : AR} (h : StepOk s xs ac R) : xs.length ≤ R.ys.length ∧ R.ys.length ≤ xs.length + 4 := by
  rcases h.ys with h | ⟨r, x, h1, h⟩
  · rw [h]; omega
  · rw [h]; simp; omega
theorem rfS_d (k : Int) (s : CD) (y : Nat) (x : Int) : (rfS k s y x).d = s.d := by
  unfold rfS raiI
  simp only [cond_eq_ite]
  repeat' split
  all_goals rfl
theorem RC.kd0 {s : CD} {xs ac : List Int} (h : RC s xs ac) (ho : HO s xs) (hl : xs.length ≤ 400) {y : Nat} {v : Int} (hy : y < 4) (hv : v ≤ 37) (hk : kdI s xs ac y v = 0) : ovI s.d xs = false ∧ y = tN s xs ∧ lgI s xs v = true := by
  have := (h.kd ho hl hy hv).1
  rw [hk] at this
  cases this with
  | none h1 h2 h3 => exact ⟨h1, h2, h3⟩
theorem RC.op {s : CD} {xs ac : List Int} (h : RC s xs ac) (ho : HO s xs) (hl : xs.length ≤ 400) : opI s xs ac = bif ovI s.d xs then 101 else 0 := by
  unfold opI
  rw [h.right ho hl]; rfl
theorem RC.dox {s : CD} {xs ac : List Int} (h : RC s xs ac) (ho : HO s xs) (hl : xs.length ≤ 399) {v : Int} (h1 : ovI s.d xs = false) (h2 : lgI s xs v = true) : doX s xs ac v = 0 := by
  unfold doX
  rw [h.op ho (by omega), h1, h2, decide_eq_false (show ¬ 400 ≤ xs.length by omega)]; rfl
theorem RC.stepOk {s : CD} {xs ac : List Int} (h : RC s xs ac) (ho : HO s xs) (hl : xs.length ≤ 396) {w : Int} {y : Nat} {v : Int} (hy : y < 4) (hv : 0 ≤ v ∧ v ≤ 37) : StepOk s xs ac (stepR s xs ac w y v) := by
  obtain ⟨kd, ke⟩ := h.kd ho (by omega) hy hv.2
  unfold stepR
  by_cases hk : kdI s xs ac y v = 0
  · rw [decide_eq_true hk, cond_true]
    obtain ⟨h1, h2, h3⟩ := h.kd0 ho (by omega) hy hv.2 hk
    obtain ⟨q1, q2⟩ := doS_d (tN s xs) xs s v
    exact ⟨h.do15 (by omega) hv.1 h3, .inl q2, q1, .inr ⟨0, v, by omega, by simp⟩, .inl rfl⟩
  · rw [decide_eq_false hk, cond_false]
    cases hc : (decide (w.tmod 3 = 0) && decide ((acI s xs ac y v).e = 0)) with
    | true =>
      simp only [Bool.and_eq_true, decide_eq_true_eq] at hc
      rcases h.acc (by omega) hv.1 ke kd with ⟨_, _, q⟩ | ⟨q, _⟩ | ⟨q, _⟩ | ⟨q, _⟩
      · obtain ⟨r, h1, h2⟩ := q.ys
        exact ⟨q.rc, .inl q.h, q.d, .inr ⟨r, v, h1, h2⟩, q.bc⟩
      · omega
      · omega
      · omega
    | false =>
      obtain ⟨q1, q2⟩ := h.ref ho hy hv kd
      exact ⟨q1, q2, rfS_d _ _ _ _, .inl rfl, .inl rfl⟩
theorem by_of {v : Int} (h : 0 ≤ v ∧ v ≤ 255) : byB v = true := decide_eq_true (by omega)
theorem RC.stEq {s : CD} {xs ac : List Int} (h : RC s xs ac) (ho : HO s xs) (hl : xs.length ≤ 396) {w : Int} {y : Nat} {v : Int} (hy : y < 4) (hv : 0 ≤ v ∧ v ≤ 37) :
    stE nF s xs ac w y v = some (ansB (stepR s xs ac w y v).s true xs ac (stepR s xs ac w y v).ys (stepR s xs ac w y v).bc, []) := by
  obtain ⟨kd, ke⟩ := h.kd ho (by omega) hy hv.2
  have cOK : nF.OK xs = true := h.ok (by omega)
  have cCK : nF.CK ac = true := decide_eq_true (by have := h.gc.len; omega)
  have cDK : nF.DK s = true := h.dk
  have cBv : nF.BY v = true := by rw [show nF.BY = byB from rfl]; exact by_of (by omega)
  have cBy : nF.BY (y : Int) = true := by rw [show nF.BY = byB from rfl]; exact by_of (by omega)
  have cAL : nF.AL xs = true := decide_eq_true (by omega)
  unfold stE stR
  rw [cOK, cCK, cDK, cBv, cBy, cAL, show nF.KE s xs ac y v = keI s xs ac y v from rfl, ke, show nF.KV s xs ac y v = kdI s xs ac y v from rfl, show nF.DX s xs ac v = doX s xs ac v from rfl, show nF.AX s xs ac y v = (acI s xs ac y v).e from rfl, show nF.RX s xs ac y v = rfX s xs ac y v from rfl]
  show (bif decide (kdI s xs ac y v = 0) then bif decide (doX s xs ac v = 0) then some (ansB (doC s xs ac v) true xs ac (doL s xs ac v) (doK s xs ac v), []) else none else
    bif decide (w.tmod 3 = 0) then bif decide ((acI s xs ac y v).e = 0) then some (ansB (acI s xs ac y v).s true xs ac (acI s xs ac y v).ys (acI s xs ac y v).bc, []) else some (ansB (rfC s xs ac y v) (decide (rfX s xs ac y v = 0)) xs ac (rfL s xs ac y v) (rfK s xs ac y v), [])
      else some (ansB (rfC s xs ac y v) (decide (rfX s xs ac y v = 0)) xs ac (rfL s xs ac y v) (rfK s xs ac y v), [])) = _
  unfold stepR
  by_cases hk : kdI s xs ac y v = 0
  · obtain ⟨h1, h2, h3⟩ := h.kd0 ho (by omega) hy hv.2 hk
    have hx := h.dox ho (by omega) h1 h3
    rw [hk, hx]
    unfold doC doL doK
    rw [hx]; rfl
  · have hrx : rfX s xs ac y v = 0 := by
      unfold rfX
      rw [ke, decide_eq_false hk]; rfl
    rw [decide_eq_false hk, hrx]
    unfold rfC rfL rfK
    rw [hrx]
    cases decide (w.tmod 3 = 0) <;> cases decide ((acI s xs ac y v).e = 0) <;> rfl
theorem lgs_mem {s : CD} {xs : List Int} {v : Int} (h : v ∈ lgsI s xs) : 0 ≤ v ∧ v ≤ 37 ∧ lgI s xs v = true := by
  unfold lgsI at h
  rw [List.mem_filter] at h
  obtain ⟨h1, h2⟩ := h
  unfold calls38 at h1
  rw [List.mem_map] at h1
  obtain ⟨n, hn, rfl⟩ := h1
  rw [List.mem_range] at hn
  exact ⟨by omega, by omega, h2⟩
theorem RC.act {s : CD} {xs ac : List Int} (h : RC s xs ac) (hl : xs.length ≤ 396) {x b w : Int} (hx : 0 ≤ x ∧ x ≤ 255) (hb : 0 ≤ b ∧ b ≤ 255) : ∃ y : Nat, (actI s xs ac x b w).1 = y ∧ y < 4 ∧ 0 ≤ (actI s xs ac x b w).2 ∧ (actI s xs ac x b w).2 ≤ 37 := by
  have ht : ∃ t : Nat, (bif decide (opI s xs ac = 0) then trnI s xs else 0) = (t : Int) ∧ t < 4 := by
    obtain ⟨h1, h2⟩ := tN_lt s xs (h.ok (by omega)) (by have := h.d; omega)
    cases decide (opI s xs ac = 0) with
    | true => exact ⟨tN s xs, h1, h2⟩
    | false => exact ⟨0, rfl, by omega⟩
  obtain ⟨t, e, ht4⟩ := ht
  unfold actI
  dsimp only
  rw [e]
  cases hc : (decide (w.tmod 3 = 2) && (decide (opI s xs ac = 0) && decide (0 < (lgV s xs ac).length))) with
  | true =>
    simp only [Bool.and_eq_true, decide_eq_true_eq] at hc
    obtain ⟨_, h2, h3⟩ := hc
    rw [cond_true]
    have hi : (x.tmod ((lgV s xs ac).length : Int)).toNat < (lgV s xs ac).length := by
      have := Int.tmod_lt_of_pos x (show (0 : Int) < ((lgV s xs ac).length : Int) by omega)
      have := Int.tmod_nonneg ((lgV s xs ac).length : Int) hx.1
      omega
    have hm : (lgV s xs ac).getD (x.tmod ((lgV s xs ac).length : Int)).toNat 0 ∈ lgV s xs ac := by
      rw [List.getD_eq_getElem?_getD, List.getElem?_eq_getElem hi]; exact List.getElem_mem _
    have e2 : lgV s xs ac = lgsI s xs := by unfold lgV; rw [h2]; rfl
    obtain ⟨q1, q2, _⟩ := lgs_mem (s := s) (xs := xs) (v := (lgV s xs ac).getD (x.tmod ((lgV s xs ac).length : Int)).toNat 0) (by rw [← e2]; exact hm)
    exact ⟨t, rfl, ht4, q1, q2⟩
  | false =>
    rw [cond_false]
    refine ⟨(seatI t b).toNat, ?_, ?_, ?_, ?_⟩
    all_goals
      unfold seatI
      have b6 := Int.tmod_eq_emod_of_nonneg (b := 6) hb.1
      have b4 := Int.tmod_eq_emod_of_nonneg (a := b % 6) (b := 4) (by omega)
      have x38 := Int.tmod_eq_emod_of_nonneg (b := 38) hx.1
      try rw [b6, b4, wr_u8_id (by omega), Int.tmod_eq_emod_of_nonneg (by omega)]
      try rw [x38]
      omega
theorem RC.step {s : CD} {xs ac : List Int} (h : RC s xs ac) (ho : HO s xs) (hl : xs.length ≤ 396) {x b w : Int} (hx : 0 ≤ x ∧ x ≤ 255) (hb : 0 ≤ b ∧ b ≤ 255) : StepOk s xs ac (stepI s xs ac x b w) := by
  obtain ⟨y, h1, h2, h3, h4⟩ := h.act (w := w) hl hx hb
  unfold stepI
  rw [h1]
  exact h.stepOk ho hl h2 ⟨h3, h4⟩
theorem RC.step_eq {s : CD} {xs ac : List Int} (h : RC s xs ac) (ho : HO s xs) (hl : xs.length ≤ 396) {x b w : Int} (hx : 0 ≤ x ∧ x ≤ 255) (hb : 0 ≤ b ∧ b ≤ 255) :
    (bif nF.OK xs then bif !decide (nF.OP s xs ac = 0) then stT nF s xs ac x b w 0 else stT nF s xs ac x b w (nF.TV s xs ac) else none) = some (ansB (stepI s xs ac x b w).s true xs ac (stepI s xs ac x b w).ys (stepI s xs ac x b w).bc, []) := by
  obtain ⟨y, h1, h2, h3, h4⟩ := h.act (w := w) hl hx hb
  have main : ∀ t, t = (bif decide (opI s xs ac = 0) then trnI s xs else 0) → stT nF s xs ac x b w t = stE nF s xs ac w (actI s xs ac x b w).1 (actI s xs ac x b w).2 := by
    rintro t rfl
    unfold stT actI
    dsimp only
    rw [show nF.OK xs = true from h.ok (by omega), show nF.DK s = true from h.dk, show nF.OP s xs ac = opI s xs ac from rfl, show nF.LV s xs ac = lgV s xs ac from rfl]
    have z : Int.ofNat (lgV s xs ac).length = ((lgV s xs ac).length : Int) := rfl
    rw [z, wr64 (n := x) (by omega) (by omega)]
    generalize ht : (bif decide (opI s xs ac = 0) then trnI s xs else 0) = t
    show (bif decide (w.tmod 3 = 2) then bif decide (opI s xs ac = 0) then bif decide ((0 : Int) < ((lgV s xs ac).length : Int)) then bif decide (((lgV s xs ac).length : Int) = 0) then none else _ else stE nF s xs ac w (seatI t b) (x.tmod 38) else stE nF s xs ac w (seatI t b) (x.tmod 38) else stE nF s xs ac w (seatI t b) (x.tmod 38)) = _
    cases decide (w.tmod 3 = 2) with
    | false => rfl
    | true =>
      cases decide (opI s xs ac = 0) with
      | false => rfl
      | true =>
        by_cases hp : 0 < (lgV s xs ac).length
        · have hi := Int.tmod_lt_of_pos x (show (0 : Int) < ((lgV s xs ac).length : Int) by omega)
          have hi0 := Int.tmod_nonneg ((lgV s xs ac).length : Int) hx.1
          rw [decide_eq_true hp, decide_eq_true (show (0 : Int) < ((lgV s xs ac).length : Int) by omega), decide_eq_false (show ¬ ((lgV s xs ac).length : Int) = 0 by omega), decide_eq_true (show 0 ≤ x.tmod ((lgV s xs ac).length : Int) ∧ x.tmod ((lgV s xs ac).length : Int) < ((lgV s xs ac).length : Int) from ⟨hi0, hi⟩)]
          simp only [cond_true, cond_false, Bool.and_self]
          rw [atN_get (by omega)]
        · rw [decide_eq_false hp, decide_eq_false (show ¬ (0 : Int) < ((lgV s xs ac).length : Int) by omega)]; rfl
  have fin : (bif nF.OK xs then bif !decide (nF.OP s xs ac = 0) then stT nF s xs ac x b w 0 else stT nF s xs ac x b w (nF.TV s xs ac) else none) = stE nF s xs ac w (actI s xs ac x b w).1 (actI s xs ac x b w).2 := by
    rw [show nF.OK xs = true from h.ok (by omega), show nF.OP s xs ac = opI s xs ac from rfl, show nF.TV s xs ac = tuV s xs ac from rfl, cond_true]
    by_cases ho : opI s xs ac = 0
    · rw [decide_eq_true ho]
      exact main _ (by unfold tuV; rw [decide_eq_true ho])
    · rw [decide_eq_false ho]
      exact main _ (by rw [decide_eq_false ho]; rfl)
  rw [fin, h1, h.stEq ho hl h2 ⟨h3, h4⟩]
  unfold stepI
  rw [h1]
def okRC (s : CD) (xs ac : List Int) : Prop := RC s xs ac ∧ HO s xs ∧ xs.length ≤ 396
theorem step20_fn (n1 n2 : Bool) {s : CD} {xs ac : List Int} (h : okRC s xs ac) {x b w : Int} (hx : 0 ≤ x ∧ x ≤ 255) (hb : 0 ≤ b ∧ b ≤ 255) :
    FnOK Try.prog 20 [.agg (s.vs (.gs 0) (.gs 1)), .agg [.int .u8 x, .int .u8 b, .int .u8 w]] (crsH n1 n2 xs ac) (.tuple [.agg ((stepI s xs ac x b w).s.vs (.gs 2) (.gs 3)), .bool true]) (crsH n1 n2 xs ac ++ crsNb (stepI s xs ac x b w).ys (stepI s xs ac x b w).bc) := by
  obtain ⟨h1, h2, h3⟩ := h
  have key := step_eval nF xs ac s x b w
  rw [h1.step_eq h2 h3 hx hb] at key
  exact fn_crs (fn_ans (T := crsA false false [.bool]) (orcF_ok emptyTab_ok plainL_ok) mixed Try.func20 noLoops_ok (by kernel_rfl) key codesNil rfl)
end Go.Proofs.Ytojlmpcbplepcaa

/- Chapter 10: Made: one round. -/
namespace Go.Proofs.Ytojlmpcbplepcaa
open Go Go.Eng
structure NS where
  SO : CD → List Int → List Int → Bool
  SC : CD → List Int → List Int → Int → Int → Int → CD
  SL : CD → List Int → List Int → Int → Int → Int → List Int
  SA : CD → List Int → List Int → Int → Int → Int → List Int
  BY : Int → Bool
noncomputable def okRCb (s : CD) (xs ac : List Int) : Bool := @decide (okRC s xs ac) (Classical.propDecidable _)
theorem okRCb_iff {s : CD} {xs ac : List Int} : okRCb s xs ac = true ↔ okRC s xs ac := by unfold okRCb; exact @decide_eq_true_iff _ (Classical.propDecidable _)
noncomputable def nS : NS := ⟨okRCb, fun s xs ac x b w => (stepI s xs ac x b w).s, fun s xs ac x b w => (stepI s xs ac x b w).ys, fun s xs ac x b w => (stepI s xs ac x b w).bc, byB⟩
def fStep (N : NS) : CH
  | [.agg l, .agg [.int .u8 x, .int .u8 b, .int .u8 w]], [.rs _ 1 (.ints .u8 xs), .rs _ 1 (.ints .i64 ac)] => match ofCrs l with
    | some (s, .gs 0, .gs 1) => some (N.SO s xs ac && (N.BY x && N.BY b), (.tuple [.agg ((N.SC s xs ac x b w).vs (.gs 2) (.gs 3)), .bool true], crsNb (N.SL s xs ac x b w) (N.SA s xs ac x b w)))
    | _ => none
  | _, _ => none
theorem byB_iff {x : Int} : byB x = true ↔ 0 ≤ x ∧ x ≤ 255 := by unfold byB; rw [decide_eq_true_iff]; omega
theorem fStep_ok : cOk 20 (fStep nS) := by
  intro args hp c v nb hq hc
  unfold fStep at hq
  split at hq
  · split at hq
    · rename_i s hs
      cases hq
      simp only [Bool.and_eq_true] at hc
      obtain ⟨h1, h2, h3⟩ := hc
      rw [ofCrs_ok hs]
      exact ⟨.of Try.func20 (by kernel_rfl), step20_fn _ _ (okRCb_iff.1 h1) (byB_iff.1 h2) (byB_iff.1 h3)⟩
    · cases hq
  · cases hq
def hTabS (N : NS) (T : HTab) : HTab := addH 20 (fStep N) T
def domS : FuncId → Bool := fun f => Nat.beq f 20
noncomputable abbrev orcS (N : NS) (T : PTab) (LL : FuncId → Loops) : Oracle := inl Try.prog ftab T LL 100 never domS (hOrcX nrC (hTabS N emptyH)) 20
theorem orcS_ok {T : PTab} (hT : PTabOk Try.prog T) {LL : FuncId → Loops} (hL : ∀ f, loopsOk Try.prog (LL f)) : OracleOk Try.prog (orcS nS T LL) := inl_ok (hOrcX_ok (addH_ok fStep_ok emptyH_ok)) ftab_ok hT hL mixed 20
noncomputable def mdLp : Code := loopOf 3 Try.f10
def mdT : Tm := ⟨mkS [(4, .ptr 1 0), (6, .ptr 2 0), (18, .view 0 3), (19, .int .i64), (20, .int .i64)] 0 36, [.rs false 3 (.ints .u8), .own 29 (.vs (crsT .nil .nil)), .own 29 (.vs (crsT (.gs 3) (.gs 4))), .grow false 5 1 (.ints .u8), .grow false 3 1 (.ints .i64)], []⟩
def mdX : Tm := ⟨mkS [(4, .ptr 1 0), (6, .ptr 2 0)] 0 36, [.rs false 3 (.ints .u8), .own 29 (.vs (crsT .nil .nil)), .own 29 (.vs (crsT (.gs 3) (.gs 4))), .grow false 5 1 (.ints .u8), .grow false 3 1 (.ints .i64)], []⟩
abbrev mdIn (k : Nat) (n i : Int) (ws : List Int) (z s : CD) (xs ac : List Int) : List PV := .n 0 :: .n k :: .i n :: .i i :: .l ws :: z.pv (s.pv [.l xs, .l ac])
abbrev mdOut (ws : List Int) (z s : CD) (xs ac : List Int) : List PV := .l ws :: z.pv (s.pv [.l xs, .l ac])
def aX (ws : List Int) (p : Nat) : Int := ws.getD p 0
def aB (ws : List Int) (p : Nat) : Int := ws.getD (p + 1) 0
def aW (ws : List Int) (p : Nat) : Int := ws.getD (p + 1 + 1) 0
theorem md_round (N : NS) (rd : Option Nat) (k : Nat) (n i : Int) (ws xs ac : List Int) (z s : CD) : roundT Try.prog (orcS N emptyTab plainL) noLoops 100 1 rd 10 mdLp mdT mdX (mdIn k n i ws z s xs ac) =
    bif decide (i < n) then bif decide (0 ≤ i ∧ i < Int.ofNat k ∧ 0 + k ≤ ws.length / 3) then bif decide (i.toNat * 3 + 3 ≤ ws.length) then bif N.SO s xs ac && (N.BY (aX ws (i.toNat * 3)) && N.BY (aB ws (i.toNat * 3))) then
      some (.normal, mdIn k n (wr .i64 (i + 1)) ws z (N.SC s xs ac (aX ws (i.toNat * 3)) (aB ws (i.toNat * 3)) (aW ws (i.toNat * 3))) (N.SL s xs ac (aX ws (i.toNat * 3)) (aB ws (i.toNat * 3)) (aW ws (i.toNat * 3))) (N.SA s xs ac (aX ws (i.toNat * 3)) (aB ws (i.toNat * 3)) (aW ws (i.toNat * 3))), [])
    else none else none else none else some (.exit 0, mdOut ws z s xs ac, []) := by kernel_rfl
end Go.Proofs.Ytojlmpcbplepcaa

/- Chapter 10: Made, plainly; its contract. -/
namespace Go.Proofs.Ytojlmpcbplepcaa
open Go Go.Eng
structure CS where
  s : CD
  xs : List Int
  ac : List Int
def CS.step (c : CS) (x b w : Int) : CS := ⟨(stepI c.s c.xs c.ac x b w).s, (stepI c.s c.xs c.ac x b w).ys, (stepI c.s c.xs c.ac x b w).bc⟩
def CS.pv (c : CS) (k : Nat) (n i : Int) (ws : List Int) (z : CD) : List PV := mdIn k n i ws z c.s c.xs c.ac
def CS.act (c : CS) (ws : List Int) (i : Nat) : CS := c.step (aX ws (i * 3)) (aB ws (i * 3)) (aW ws (i * 3))
def mdR (ws : List Int) : Nat → Nat → CS → CS
  | 0, _, c => c
  | n + 1, i, c => mdR ws n (i + 1) (c.act ws i)
structure CS.Ok (c : CS) (n : Nat) : Prop where
  rc : RC c.s c.xs c.ac
  ho : HO c.s c.xs
  le : c.xs.length ≤ n
theorem CS.Ok.ok {c : CS} {n : Nat} (h : c.Ok n) (hn : n ≤ 396) : okRC c.s c.xs c.ac := ⟨h.rc, h.ho, Nat.le_trans h.le hn⟩
def okW (ws : List Int) : Bool := decide (ws.length % 3 = 0) && allU ws
theorem okW_iff {ws : List Int} : okW ws = true ↔ ws.length % 3 = 0 ∧ allU ws = true := by simp [okW]
theorem okW_at {ws : List Int} (h : okW ws = true) {p : Nat} (hp : p < ws.length) : byB (ws.getD p 0) = true := by
  have := allU_get (okW_iff.1 h).2 hp
  rw [List.getD_eq_getElem?_getD, List.getElem?_eq_getElem hp]
  exact decide_eq_true this
theorem CS.Ok.act {c : CS} {n : Nat} (h : c.Ok n) (hn : n ≤ 396) {ws : List Int} (hw : okW ws = true) {i : Nat} (hi : i * 3 + 3 ≤ ws.length) : (c.act ws i).Ok (n + 4) ∧ StepOk c.s c.xs c.ac (stepI c.s c.xs c.ac (aX ws (i * 3)) (aB ws (i * 3)) (aW ws (i * 3))) := by
  have q : StepOk c.s c.xs c.ac (stepI c.s c.xs c.ac (aX ws (i * 3)) (aB ws (i * 3)) (aW ws (i * 3))) := h.rc.step h.ho (Nat.le_trans h.le hn) (w := aW ws (i * 3)) (byB_iff.1 (okW_at hw (show i * 3 < ws.length by omega))) (byB_iff.1 (okW_at hw (show i * 3 + 1 < ws.length by omega)))
  have hl := q.len
  exact ⟨⟨q.rc, q.ho, by have := h.le; show (stepI c.s c.xs c.ac (aX ws (i * 3)) (aB ws (i * 3)) (aW ws (i * 3))).ys.length ≤ n + 4; omega⟩, q⟩
theorem md_loop (rd : Option Nat) (ws : List Int) (z : CD) (k : Nat) (hk : k ≤ 40) (hkw : k ≤ ws.length / 3) (hw : okW ws = true) : ∀ x : Nat × CS, (x.1 ≤ k ∧ x.2.Ok (4 * x.1)) →
    SimC Try.prog 1 rd (.loop mdLp) (mdT.at (x.2.pv k (k : Int) (x.1 : Int) ws z)) (.exit 0) (mdX.at (mdOut ws z (mdR ws (k - x.1) x.1 x.2).s (mdR ws (k - x.1) x.1 x.2).xs (mdR ws (k - x.1) x.1 x.2).ac)) := by
  refine loop_of_rounds (C := orcS nS emptyTab plainL) (L := noLoops) (N := 100) (me := 10) (T := mdT) (T' := mdX) (orcS_ok emptyTab_ok plainL_ok) mixed noLoops_ok (by kernel_rfl) (by kernel_rfl) (X := Nat × CS)
    (fun x => x.2.pv k (k : Int) (x.1 : Int) ws z) (fun x => x.1 ≤ k ∧ x.2.Ok (4 * x.1)) (fun x => k - x.1) (fun x => (.exit 0, mdOut ws z (mdR ws (k - x.1) x.1 x.2).s (mdR ws (k - x.1) x.1 x.2).xs (mdR ws (k - x.1) x.1 x.2).ac)) ?_
  rintro ⟨i, c⟩ ⟨hi, hc⟩
  dsimp only at hi hc ⊢
  have key := md_round nS rd k (k : Int) (i : Int) ws c.xs c.ac z c.s
  rcases Nat.lt_or_ge i k with hlt | hge
  · have z1 : Int.ofNat k = (k : Int) := rfl
    have hin : i * 3 + 3 ≤ ws.length := by omega
    have hs : nS.SO c.s c.xs c.ac = true := okRCb_iff.2 (hc.ok (by omega))
    obtain ⟨q1, q2⟩ := hc.act (by omega) hw hin
    rw [z1, decide_eq_true (show (i : Int) < (k : Int) by omega), cond_true, decide_eq_true (show 0 ≤ (i : Int) ∧ (i : Int) < (k : Int) ∧ 0 + k ≤ ws.length / 3 by omega), cond_true, show ((i : Int)).toNat = i from rfl, decide_eq_true hin, cond_true, hs,
      show nS.BY = byB from rfl, show byB (aX ws (i * 3)) = true from okW_at hw (by omega), show byB (aB ws (i * 3)) = true from okW_at hw (by omega), wr64 (n := (i : Int) + 1) (by omega) (by omega)] at key
    refine ⟨_, _, _, key, codesNil, .inl ⟨rfl, (i + 1, c.act ws i), rfl, ⟨by dsimp only; omega, by dsimp only; rw [show 4 * (i + 1) = 4 * i + 4 by omega]; exact q1⟩, by dsimp only; omega, ?_⟩⟩
    dsimp only
    rw [show k - i = (k - (i + 1)) + 1 by omega]; rfl
  · rw [decide_eq_false (show ¬ (i : Int) < (k : Int) by omega), cond_false] at key
    refine ⟨_, _, _, key, codesNil, .inr ⟨by simp, ?_⟩⟩
    rw [show k - i = 0 by omega]; rfl
def crs0 (d : Int) : CD := ⟨d, q0, q0, 0, q0⟩
def mdI (d : Int) (ws : List Int) : CS := mdR ws (min 40 (ws.length / 3)) 0 ⟨crs0 (d.tmod 4), [], []⟩
structure NMd where
  MC : CD → List Int → Nat → CD
  ML : CD → List Int → Nat → List Int
  MA : CD → List Int → Nat → List Int
  OK : List Int → Bool
  D4 : Int → Bool
def nMd : NMd := ⟨fun s ws k => (mdR ws k 0 ⟨s, [], []⟩).s, fun s ws k => (mdR ws k 0 ⟨s, [], []⟩).xs, fun s ws k => (mdR ws k 0 ⟨s, [], []⟩).ac, okW, fun d => decide (0 ≤ d ∧ d ≤ 3)⟩
def isC0 (s : CD) : Bool := decide (s.p.a = 0 ∧ s.p.b = 0 ∧ s.p.c = 0 ∧ s.p.d = 0) && (decide (s.a.a = 0 ∧ s.a.b = 0 ∧ s.a.c = 0 ∧ s.a.d = 0) && (decide (s.f.a = 0 ∧ s.f.b = 0 ∧ s.f.c = 0 ∧ s.f.d = 0) && decide (s.h = 0)))
theorem isC0_ok {s : CD} (h : isC0 s = true) : s = crs0 s.d := by
  obtain ⟨d, ⟨p0, p1, p2, p3⟩, ⟨a0, a1, a2, a3⟩, hh, ⟨f0, f1, f2, f3⟩⟩ := s
  simp only [isC0, Bool.and_eq_true, decide_eq_true_eq] at h
  obtain ⟨⟨rfl, rfl, rfl, rfl⟩, ⟨rfl, rfl, rfl, rfl⟩, ⟨rfl, rfl, rfl, rfl⟩, rfl⟩ := h
  rfl
theorem rc0 {d : Int} (hd : 0 ≤ d ∧ d ≤ 3) : CS.Ok ⟨crs0 d, [], []⟩ 0 := by
  have z : ∀ lo hi : Int, lo ≤ 0 → 0 ≤ hi → q4ok lo hi q0 := fun lo hi h1 h2 k hk => by
    have : k = 0 ∨ k = 1 ∨ k = 2 ∨ k = 3 := by omega
    rcases this with rfl | rfl | rfl | rfl <;> exact ⟨h1, h2⟩
  exact ⟨⟨hd, .nil, by show (0 : Int) ≤ 0 ∧ (0 : Int) ≤ 38; omega, z _ _ (by omega) (by omega), z _ _ (by omega) (by omega), z _ _ (by omega) (by omega)⟩, .inl rfl, Nat.le_refl _⟩
noncomputable def mdTree (N : NMd) : List PV → Fin
  | .n l :: .n k :: .i n :: .i i :: .l ws :: ps => match crsP ps with
    | some (z, ps2) => match crsP ps2 with
      | some (s, [.l xs, .l ac]) => .br (decide (l = 0 ∧ n = Int.ofNat k ∧ i = 0 ∧ xs.length = 0 ∧ ac.length = 0 ∧ k ≤ 40 ∧ k ≤ ws.length / 3) && (N.OK ws && (isC0 s && N.D4 s.d))) (.leaf (.exit 0) (mdX.at (mdOut ws z (N.MC s ws k) (N.ML s ws k) (N.MA s ws k)))) .no
      | _ => .no
    | _ => .no
  | _ => .no
noncomputable def mdL (N : NMd) : Loops := sums (fun n => match n with | 3 => some (lsumF 1 mdT mdLp (mdTree N)) | _ => none)
theorem mdL_ok : loopsOk Try.prog (mdL nMd) := by
  intro n g hg
  simp only [mdL, sums] at hg
  split at hg
  · cases hg
    refine lsumF_ok (by kernel_rfl) (fun rd ps e1 st1 hq => ?_)
    unfold mdTree at hq
    split at hq
    · rename_i l k n i ws ps
      split at hq
      · rename_i z ps2 hz
        split at hq
        · rename_i s xs ac hs
          rw [crsP_ok hz, crsP_ok hs]
          simp only [Fin.pick] at hq
          cases hc : decide (l = 0 ∧ n = Int.ofNat k ∧ i = 0 ∧ xs.length = 0 ∧ ac.length = 0 ∧ k ≤ 40 ∧ k ≤ ws.length / 3) && (nMd.OK ws && (isC0 s && nMd.D4 s.d)) with
          | false => rw [hc] at hq; cases hq
          | true =>
            rw [hc, cond_true] at hq
            simp only [Bool.and_eq_true, decide_eq_true_eq] at hc
            obtain ⟨⟨rfl, rfl, rfl, h1, h2, h3, h4⟩, h5, h6, h7⟩ := hc
            obtain rfl := List.eq_nil_of_length_eq_zero h1
            obtain rfl := List.eq_nil_of_length_eq_zero h2
            cases hq
            have hs0 := isC0_ok h6
            have := md_loop rd ws z k h3 h4 h5 (0, ⟨s, [], []⟩) ⟨Nat.zero_le _, by rw [hs0]; exact rc0 (of_decide_eq_true h7)⟩
            exact this
        · cases hq
      · cases hq
    · cases hq
  · cases hg
end Go.Proofs.Ytojlmpcbplepcaa
