/- Chapter 10: step, plainly; its contract for right courses. -/
import Derived.Test.YtojlmpcbplepcaaRc2
namespace Go.Proofs.Ytojlmpcbplepcaa
open Go Go.Eng
theorem GC.len {d : Int} {xs ac : List Int} (h : GC d xs ac) : ac.length ≤ xs.length := by
  induction h with
  | nil => exact Nat.le_refl _
  | free _ _ _ _ _ ih => rw [List.length_append, List.length_singleton]; omega
  | low _ _ _ ih => rw [List.length_append, List.length_append, List.length_singleton, List.length_singleton]; omega
/-- What a call of a seat makes. -/
def stepR (s : CD) (xs ac : List Int) (w y v : Int) : AR := bif decide (kdI s xs ac y v = 0) then ⟨0, doS (tN s xs) xs s v, xs ++ [v], ac⟩ else
  bif decide (w.tmod 3 = 0) && decide ((acI s xs ac y v).e = 0) then acI s xs ac y v else ⟨0, rfS (kdI s xs ac y v) s y.toNat v, xs, ac⟩
def seatI (t b : Int) : Int := (wr .u8 (t + (b.tmod 6).tmod 4)).tmod 4
/-- The seat and the call of an act. -/
def actI (s : CD) (xs ac : List Int) (x b w : Int) : Int × Int :=
  let t := bif decide (opI s xs ac = 0) then trnI s xs else 0
  bif decide (w.tmod 3 = 2) && (decide (opI s xs ac = 0) && decide (0 < (lgV s xs ac).length)) then (t, (lgV s xs ac).getD (x.tmod ((lgV s xs ac).length : Int)).toNat 0) else (seatI t b, x.tmod 38)
def stepI (s : CD) (xs ac : List Int) (x b w : Int) : AR := stepR s xs ac w (actI s xs ac x b w).1 (actI s xs ac x b w).2
/-- A right course after a step. -/
structure StepOk (s : CD) (xs ac : List Int) (R : AR) : Prop where
  rc : RC R.s R.ys R.bc
  ho : HO R.s R.ys
  d : R.s.d = s.d
  ys : R.ys = xs ∨ ∃ r x, r ≤ 3 ∧ R.ys = xs ++ (List.replicate r 0 ++ [x])
  bc : R.bc = ac ∨ R.bc = ac ++ [(xs.length : Int)]
theorem StepOk.len {s : CD} {xs ac : List Int} {R : AR} (h : StepOk s xs ac R) : xs.length ≤ R.ys.length ∧ R.ys.length ≤ xs.length + 4 := by
  rcases h.ys with h | ⟨r, x, h1, h⟩
  · rw [h]; omega
  · rw [h]; simp; omega
theorem rfS_d (k : Int) (s : CD) (y : Nat) (x : Int) : (rfS k s y x).d = s.d := by
  unfold rfS raiI
  simp only [cond_eq_ite]
  repeat' split
  all_goals rfl
theorem RC.kd0 {s : CD} {xs ac : List Int} (h : RC s xs ac) (ho : HO s xs) (hl : xs.length ≤ 400) {y : Nat} {v : Int} (hy : y < 4) (hv : v ≤ 37) (hk : kdI s xs ac y v = 0) : ovI s.d xs = false ∧ y = tN s xs ∧ lgI s xs v = true := by
  have := (h.kd ho hl hy hv).1
  rw [hk] at this
  cases this with
  | none h1 h2 h3 => exact ⟨h1, h2, h3⟩
theorem RC.op {s : CD} {xs ac : List Int} (h : RC s xs ac) (ho : HO s xs) (hl : xs.length ≤ 400) : opI s xs ac = bif ovI s.d xs then 101 else 0 := by
  unfold opI
  rw [h.right ho hl]; rfl
theorem RC.dox {s : CD} {xs ac : List Int} (h : RC s xs ac) (ho : HO s xs) (hl : xs.length ≤ 399) {v : Int} (h1 : ovI s.d xs = false) (h2 : lgI s xs v = true) : doX s xs ac v = 0 := by
  unfold doX
  rw [h.op ho (by omega), h1, h2, decide_eq_false (show ¬ 400 ≤ xs.length by omega)]; rfl
theorem RC.stepOk {s : CD} {xs ac : List Int} (h : RC s xs ac) (ho : HO s xs) (hl : xs.length ≤ 396) {w : Int} {y : Nat} {v : Int} (hy : y < 4) (hv : 0 ≤ v ∧ v ≤ 37) : StepOk s xs ac (stepR s xs ac w y v) := by
  obtain ⟨kd, ke⟩ := h.kd ho (by omega) hy hv.2
  unfold stepR
  by_cases hk : kdI s xs ac y v = 0
  · rw [decide_eq_true hk, cond_true]
    obtain ⟨h1, h2, h3⟩ := h.kd0 ho (by omega) hy hv.2 hk
    obtain ⟨q1, q2⟩ := doS_d (tN s xs) xs s v
    exact ⟨h.do15 (by omega) hv.1 h3, .inl q2, q1, .inr ⟨0, v, by omega, by simp⟩, .inl rfl⟩
  · rw [decide_eq_false hk, cond_false]
    cases hc : (decide (w.tmod 3 = 0) && decide ((acI s xs ac y v).e = 0)) with
    | true =>
      simp only [Bool.and_eq_true, decide_eq_true_eq] at hc
      rcases h.acc (by omega) hv.1 ke kd with ⟨_, _, q⟩ | ⟨q, _⟩ | ⟨q, _⟩ | ⟨q, _⟩
      · obtain ⟨r, h1, h2⟩ := q.ys
        exact ⟨q.rc, .inl q.h, q.d, .inr ⟨r, v, h1, h2⟩, q.bc⟩
      · omega
      · omega
      · omega
    | false =>
      obtain ⟨q1, q2⟩ := h.ref ho hy hv kd
      exact ⟨q1, q2, rfS_d _ _ _ _, .inl rfl, .inl rfl⟩
theorem by_of {v : Int} (h : 0 ≤ v ∧ v ≤ 255) : byB v = true := decide_eq_true (by omega)
/-- The formula of a step, for right courses. -/
theorem RC.stEq {s : CD} {xs ac : List Int} (h : RC s xs ac) (ho : HO s xs) (hl : xs.length ≤ 396) {w : Int} {y : Nat} {v : Int} (hy : y < 4) (hv : 0 ≤ v ∧ v ≤ 37) :
    stE nF s xs ac w y v = some (ansB (stepR s xs ac w y v).s true xs ac (stepR s xs ac w y v).ys (stepR s xs ac w y v).bc, []) := by
  obtain ⟨kd, ke⟩ := h.kd ho (by omega) hy hv.2
  have cOK : nF.OK xs = true := h.ok (by omega)
  have cCK : nF.CK ac = true := decide_eq_true (by have := h.gc.len; omega)
  have cDK : nF.DK s = true := h.dk
  have cBv : nF.BY v = true := by rw [show nF.BY = byB from rfl]; exact by_of (by omega)
  have cBy : nF.BY (y : Int) = true := by rw [show nF.BY = byB from rfl]; exact by_of (by omega)
  have cAL : nF.AL xs = true := decide_eq_true (by omega)
  unfold stE stR
  rw [cOK, cCK, cDK, cBv, cBy, cAL, show nF.KE s xs ac y v = keI s xs ac y v from rfl, ke, show nF.KV s xs ac y v = kdI s xs ac y v from rfl, show nF.DX s xs ac v = doX s xs ac v from rfl, show nF.AX s xs ac y v = (acI s xs ac y v).e from rfl, show nF.RX s xs ac y v = rfX s xs ac y v from rfl]
  show (bif decide (kdI s xs ac y v = 0) then bif decide (doX s xs ac v = 0) then some (ansB (doC s xs ac v) true xs ac (doL s xs ac v) (doK s xs ac v), []) else none else
    bif decide (w.tmod 3 = 0) then bif decide ((acI s xs ac y v).e = 0) then some (ansB (acI s xs ac y v).s true xs ac (acI s xs ac y v).ys (acI s xs ac y v).bc, []) else some (ansB (rfC s xs ac y v) (decide (rfX s xs ac y v = 0)) xs ac (rfL s xs ac y v) (rfK s xs ac y v), [])
      else some (ansB (rfC s xs ac y v) (decide (rfX s xs ac y v = 0)) xs ac (rfL s xs ac y v) (rfK s xs ac y v), [])) = _
  unfold stepR
  by_cases hk : kdI s xs ac y v = 0
  · obtain ⟨h1, h2, h3⟩ := h.kd0 ho (by omega) hy hv.2 hk
    have hx := h.dox ho (by omega) h1 h3
    rw [hk, hx]
    unfold doC doL doK
    rw [hx]; rfl
  · have hrx : rfX s xs ac y v = 0 := by
      unfold rfX
      rw [ke, decide_eq_false hk]; rfl
    rw [decide_eq_false hk, hrx]
    unfold rfC rfL rfK
    rw [hrx]
    cases decide (w.tmod 3 = 0) <;> cases decide ((acI s xs ac y v).e = 0) <;> rfl
theorem lgs_mem {s : CD} {xs : List Int} {v : Int} (h : v ∈ lgsI s xs) : 0 ≤ v ∧ v ≤ 37 ∧ lgI s xs v = true := by
  unfold lgsI at h
  rw [List.mem_filter] at h
  obtain ⟨h1, h2⟩ := h
  unfold calls38 at h1
  rw [List.mem_map] at h1
  obtain ⟨n, hn, rfl⟩ := h1
  rw [List.mem_range] at hn
  exact ⟨by omega, by omega, h2⟩
/-- An act's seat and call are such. -/
theorem RC.act {s : CD} {xs ac : List Int} (h : RC s xs ac) (hl : xs.length ≤ 396) {x b w : Int} (hx : 0 ≤ x ∧ x ≤ 255) (hb : 0 ≤ b ∧ b ≤ 255) : ∃ y : Nat, (actI s xs ac x b w).1 = y ∧ y < 4 ∧ 0 ≤ (actI s xs ac x b w).2 ∧ (actI s xs ac x b w).2 ≤ 37 := by
  have ht : ∃ t : Nat, (bif decide (opI s xs ac = 0) then trnI s xs else 0) = (t : Int) ∧ t < 4 := by
    obtain ⟨h1, h2⟩ := tN_lt s xs (h.ok (by omega)) (by have := h.d; omega)
    cases decide (opI s xs ac = 0) with
    | true => exact ⟨tN s xs, h1, h2⟩
    | false => exact ⟨0, rfl, by omega⟩
  obtain ⟨t, e, ht4⟩ := ht
  unfold actI
  dsimp only
  rw [e]
  cases hc : (decide (w.tmod 3 = 2) && (decide (opI s xs ac = 0) && decide (0 < (lgV s xs ac).length))) with
  | true =>
    simp only [Bool.and_eq_true, decide_eq_true_eq] at hc
    obtain ⟨_, h2, h3⟩ := hc
    rw [cond_true]
    have hi : (x.tmod ((lgV s xs ac).length : Int)).toNat < (lgV s xs ac).length := by
      have := Int.tmod_lt_of_pos x (show (0 : Int) < ((lgV s xs ac).length : Int) by omega)
      have := Int.tmod_nonneg ((lgV s xs ac).length : Int) hx.1
      omega
    have hm : (lgV s xs ac).getD (x.tmod ((lgV s xs ac).length : Int)).toNat 0 ∈ lgV s xs ac := by
      rw [List.getD_eq_getElem?_getD, List.getElem?_eq_getElem hi]; exact List.getElem_mem _
    have e2 : lgV s xs ac = lgsI s xs := by unfold lgV; rw [h2]; rfl
    obtain ⟨q1, q2, _⟩ := lgs_mem (s := s) (xs := xs) (v := (lgV s xs ac).getD (x.tmod ((lgV s xs ac).length : Int)).toNat 0) (by rw [← e2]; exact hm)
    exact ⟨t, rfl, ht4, q1, q2⟩
  | false =>
    rw [cond_false]
    refine ⟨(seatI t b).toNat, ?_, ?_, ?_, ?_⟩
    all_goals
      unfold seatI
      have b6 := Int.tmod_eq_emod_of_nonneg (b := 6) hb.1
      have b4 := Int.tmod_eq_emod_of_nonneg (a := b % 6) (b := 4) (by omega)
      have x38 := Int.tmod_eq_emod_of_nonneg (b := 38) hx.1
      try rw [b6, b4, wr_u8_id (by omega), Int.tmod_eq_emod_of_nonneg (by omega)]
      try rw [x38]
      omega
theorem RC.step {s : CD} {xs ac : List Int} (h : RC s xs ac) (ho : HO s xs) (hl : xs.length ≤ 396) {x b w : Int} (hx : 0 ≤ x ∧ x ≤ 255) (hb : 0 ≤ b ∧ b ≤ 255) : StepOk s xs ac (stepI s xs ac x b w) := by
  obtain ⟨y, h1, h2, h3, h4⟩ := h.act (w := w) hl hx hb
  unfold stepI
  rw [h1]
  exact h.stepOk ho hl h2 ⟨h3, h4⟩
theorem RC.step_eq {s : CD} {xs ac : List Int} (h : RC s xs ac) (ho : HO s xs) (hl : xs.length ≤ 396) {x b w : Int} (hx : 0 ≤ x ∧ x ≤ 255) (hb : 0 ≤ b ∧ b ≤ 255) :
    (bif nF.OK xs then bif !decide (nF.OP s xs ac = 0) then stT nF s xs ac x b w 0 else stT nF s xs ac x b w (nF.TV s xs ac) else none) = some (ansB (stepI s xs ac x b w).s true xs ac (stepI s xs ac x b w).ys (stepI s xs ac x b w).bc, []) := by
  obtain ⟨y, h1, h2, h3, h4⟩ := h.act (w := w) hl hx hb
  have main : ∀ t, t = (bif decide (opI s xs ac = 0) then trnI s xs else 0) → stT nF s xs ac x b w t = stE nF s xs ac w (actI s xs ac x b w).1 (actI s xs ac x b w).2 := by
    rintro t rfl
    unfold stT actI
    dsimp only
    rw [show nF.OK xs = true from h.ok (by omega), show nF.DK s = true from h.dk, show nF.OP s xs ac = opI s xs ac from rfl, show nF.LV s xs ac = lgV s xs ac from rfl]
    have z : Int.ofNat (lgV s xs ac).length = ((lgV s xs ac).length : Int) := rfl
    rw [z, wr64 (n := x) (by omega) (by omega)]
    generalize ht : (bif decide (opI s xs ac = 0) then trnI s xs else 0) = t
    show (bif decide (w.tmod 3 = 2) then bif decide (opI s xs ac = 0) then bif decide ((0 : Int) < ((lgV s xs ac).length : Int)) then bif decide (((lgV s xs ac).length : Int) = 0) then none else _ else stE nF s xs ac w (seatI t b) (x.tmod 38) else stE nF s xs ac w (seatI t b) (x.tmod 38) else stE nF s xs ac w (seatI t b) (x.tmod 38)) = _
    cases decide (w.tmod 3 = 2) with
    | false => rfl
    | true =>
      cases decide (opI s xs ac = 0) with
      | false => rfl
      | true =>
        by_cases hp : 0 < (lgV s xs ac).length
        · have hi := Int.tmod_lt_of_pos x (show (0 : Int) < ((lgV s xs ac).length : Int) by omega)
          have hi0 := Int.tmod_nonneg ((lgV s xs ac).length : Int) hx.1
          rw [decide_eq_true hp, decide_eq_true (show (0 : Int) < ((lgV s xs ac).length : Int) by omega), decide_eq_false (show ¬ ((lgV s xs ac).length : Int) = 0 by omega), decide_eq_true (show 0 ≤ x.tmod ((lgV s xs ac).length : Int) ∧ x.tmod ((lgV s xs ac).length : Int) < ((lgV s xs ac).length : Int) from ⟨hi0, hi⟩)]
          simp only [cond_true, cond_false, Bool.and_self]
          rw [atN_get (by omega)]
        · rw [decide_eq_false hp, decide_eq_false (show ¬ (0 : Int) < ((lgV s xs ac).length : Int) by omega)]; rfl
  have fin : (bif nF.OK xs then bif !decide (nF.OP s xs ac = 0) then stT nF s xs ac x b w 0 else stT nF s xs ac x b w (nF.TV s xs ac) else none) = stE nF s xs ac w (actI s xs ac x b w).1 (actI s xs ac x b w).2 := by
    rw [show nF.OK xs = true from h.ok (by omega), show nF.OP s xs ac = opI s xs ac from rfl, show nF.TV s xs ac = tuV s xs ac from rfl, cond_true]
    by_cases ho : opI s xs ac = 0
    · rw [decide_eq_true ho]
      exact main _ (by unfold tuV; rw [decide_eq_true ho])
    · rw [decide_eq_false ho]
      exact main _ (by rw [decide_eq_false ho]; rfl)
  rw [fin, h1, h.stEq ho hl h2 ⟨h3, h4⟩]
  unfold stepI
  rw [h1]
def okRC (s : CD) (xs ac : List Int) : Prop := RC s xs ac ∧ HO s xs ∧ xs.length ≤ 396
theorem step20_fn (n1 n2 : Bool) {s : CD} {xs ac : List Int} (h : okRC s xs ac) {x b w : Int} (hx : 0 ≤ x ∧ x ≤ 255) (hb : 0 ≤ b ∧ b ≤ 255) :
    FnOK Try.prog 20 [.agg (s.vs (.gs 0) (.gs 1)), .agg [.int .u8 x, .int .u8 b, .int .u8 w]] (crsH n1 n2 xs ac) (.tuple [.agg ((stepI s xs ac x b w).s.vs (.gs 2) (.gs 3)), .bool true]) (crsH n1 n2 xs ac ++ crsNb (stepI s xs ac x b w).ys (stepI s xs ac x b w).bc) := by
  obtain ⟨h1, h2, h3⟩ := h
  have key := step_eval nF xs ac s x b w
  rw [h1.step_eq h2 h3 hx hb] at key
  exact fn_crs (fn_ans (T := crsA false false [.bool]) (orcF_ok emptyTab_ok plainL_ok) mixed Try.func20 noLoops_ok (by kernel_rfl) key codesNil rfl)
end Go.Proofs.Ytojlmpcbplepcaa
