/- Texts merged: Yp0, Yp. -/
import Derived.Test.YtojlmpcbplepcaaGreatYn
import Derived.Test.YtojlmpcbplepcaaGreatYo1
import Derived.Test.YtojlmpcbplepcaaGreatYo2
import Derived.Test.YtojlmpcbplepcaaGreatYo3
import Derived.Test.YtojlmpcbplepcaaGreatYo4
/- Chapter 10: courses of bytes stay so. -/
namespace Go.Proofs.YtojlmpcbplepcaaGreat
open Go Go.Eng
theorem by_wr (x : Int) : byB (wr .u8 x) = true := decide_eq_true (by show 0 ≤ _ % 256 ∧ _ % 256 < 256; omega)
theorem crB_iff {s : CD} : crB s = true ↔ dkB s = true ∧ byB s.h = true ∧ (∀ k, byB (s.a.at k) = true) ∧ ∀ k, byB (s.f.at k) = true := by
  have q : ∀ q : Q4, (byB q.a && (byB q.b && (byB q.c && byB q.d))) = true ↔ ∀ k, byB (q.at k) = true := fun q => by
    simp only [Bool.and_eq_true]
    constructor
    · rintro ⟨h1, h2, h3, h4⟩ k
      match k with
      | 0 => exact h1
      | 1 => exact h2
      | 2 => exact h3
      | n + 3 => exact h4
    · intro h
      exact ⟨h 0, h 1, h 2, h 3⟩
  unfold crB
  rw [Bool.and_eq_true, Bool.and_eq_true, Bool.and_eq_true, q, q]
theorem at_set2 (q : Q4) (v : Int) (k j : Nat) : (q.set v k).at j = v ∨ (q.set v k).at j = q.at j := by
  match k, j with
  | 0, 0 => exact .inl rfl
  | 0, 1 => exact .inr rfl
  | 0, 2 => exact .inr rfl
  | 0, n + 3 => exact .inr rfl
  | 1, 0 => exact .inr rfl
  | 1, 1 => exact .inl rfl
  | 1, 2 => exact .inr rfl
  | 1, n + 3 => exact .inr rfl
  | 2, 0 => exact .inr rfl
  | 2, 1 => exact .inr rfl
  | 2, 2 => exact .inl rfl
  | 2, n + 3 => exact .inr rfl
  | m + 3, 0 => exact .inr rfl
  | m + 3, 1 => exact .inr rfl
  | m + 3, 2 => exact .inr rfl
  | m + 3, n + 3 => exact .inl rfl
theorem crB_P {s : CD} (h : crB s = true) (v : Int) (k : Nat) : crB (s.setP v k) = true := h
theorem crB_H {s : CD} (h : crB s = true) {v : Int} (hv : byB v = true) : crB (s.setH v) = true := by
  obtain ⟨h1, h2, h3, h4⟩ := crB_iff.1 h
  exact crB_iff.2 ⟨h1, hv, h3, h4⟩
theorem crB_A {s : CD} (h : crB s = true) {v : Int} (hv : byB v = true) (k : Nat) : crB (s.setA v k) = true := by
  obtain ⟨h1, h2, h3, h4⟩ := crB_iff.1 h
  refine crB_iff.2 ⟨h1, h2, fun j => ?_, h4⟩
  show byB ((s.a.set v k).at j) = true
  rcases at_set2 s.a v k j with e | e <;> rw [e]
  · exact hv
  · exact h3 j
theorem crB_F {s : CD} (h : crB s = true) {v : Int} (hv : byB v = true) (k : Nat) : crB (s.setF v k) = true := by
  obtain ⟨h1, h2, h3, h4⟩ := crB_iff.1 h
  refine crB_iff.2 ⟨h1, h2, h3, fun j => ?_⟩
  show byB ((s.f.set v k).at j) = true
  rcases at_set2 s.f v k j with e | e <;> rw [e]
  · exact hv
  · exact h4 j
theorem by0 : byB 0 = true := rfl
theorem crB_c0 : crB c0 = true := rfl
theorem crB_sil {s : CD} (h : crB s = true) (k j : Nat) (x : Int) : crB (silI suI s k j x) = true := crB_F (s := s.setP (-1) k) (crB_P h _ _) (by_wr _) j
theorem crB_rai {s : CD} (h : crB s = true) (k : Nat) : crB (raiI s k) = true := by
  unfold raiI
  cases decide (s.p.at k = 0) with
  | true => exact crB_P h _ _
  | false => exact h
theorem crB_met {s : CD} (h : crB s = true) (k : Nat) : crB (metI s k) = true := by
  unfold metI
  cases decide (0 < s.p.at k) with
  | true => exact crB_A (crB_P h _ _) by0 k
  | false => exact crB_A h by0 k
theorem crB_acP : ∀ (r : Nat) (s s' : CD) (ys zs : List Int) (j : Nat), crB s = true → acP r s ys j = some (s', zs) → crB s' = true ∧ zs.length = ys.length + r ∧ (allU ys = true → allU zs = true)
  | 0, s, s', ys, zs, j, h, e => by
    cases e
    exact ⟨h, rfl, id⟩
  | r + 1, s, s', ys, zs, j, h, e => by
    unfold acP at e
    cases hv : ovI s.d ys with
    | true => rw [hv] at e; cases e
    | false =>
      rw [hv] at e
      obtain ⟨a1, a2, a3⟩ := crB_acP r _ _ _ _ _ (crB_met h j) e
      refine ⟨a1, by rw [a2, List.length_append, List.length_singleton]; omega, fun hu => a3 (allU_snoc hu (by omega))⟩
theorem crB_do {s : CD} (h : crB s = true) (xs ac : List Int) (x : Int) : crB (doC s xs ac x) = true := by
  unfold doC
  cases decide (doX s xs ac x = 0) with
  | false => exact crB_c0
  | true =>
    rw [cond_true]
    unfold doS
    dsimp only
    refine crB_H ?_ by0
    have h3 : ∀ s1 : CD, crB s1 = true → crB (bif decide (0 < s.h) && !mnI s.h xs x then silI suI s1 (mate (tN s xs)) (mate (tN s xs)) (wr .u8 (s.h - 1)) else s1) = true := fun s1 h1 => by
      cases (decide (0 < s.h) && !mnI s.h xs x) with
      | true => exact crB_sil h1 _ _ _
      | false => exact h1
    refine h3 _ (crB_A ?_ by0 _)
    have h1 : crB (bif decide (0 < s.p.at (tN s xs)) then s.setP (wr .i64 (s.p.at (tN s xs) - 1)) (tN s xs) else s) = true := by
      cases decide (0 < s.p.at (tN s xs)) with
      | true => exact crB_P h _ _
      | false => exact h
    generalize (bif decide (0 < s.p.at (tN s xs)) then s.setP (wr .i64 (s.p.at (tN s xs) - 1)) (tN s xs) else s) = s1 at h1
    cases (decide (0 < s.a.at (tN s xs)) && (!psI xs && decide (s1.p.at (mate (tN s xs)) = 0))) with
    | true => exact crB_P h1 _ _
    | false => exact h1
theorem doL_b {s : CD} {xs ac : List Int} {x : Int} (hu : allU xs = true) (hx : byB x = true) : allU (doL s xs ac x) = true ∧ (doL s xs ac x).length ≤ xs.length + 1 := by
  unfold doL
  cases decide (doX s xs ac x = 0) with
  | false => exact ⟨rfl, by simp⟩
  | true => exact ⟨allU_snoc hu (by_rg hx), by simp⟩
theorem crB_rf {s : CD} (h : crB s = true) (xs ac : List Int) (y x : Int) : crB (rfC s xs ac y x) = true := by
  unfold rfC
  cases decide (rfX s xs ac y x = 0) with
  | false => exact crB_c0
  | true =>
    rw [cond_true]
    unfold rfS
    have hr := fun k => crB_rai h k
    cases (decide (kdI s xs ac y x = 1) || decide (kdI s xs ac y x = 2)) with
    | true => exact crB_H h (by_wr _)
    | false =>
      rw [cond_false]
      cases decide (kdI s xs ac y x = 3) with
      | true =>
        rw [cond_true]
        cases decide (x = 0) with
        | true => exact hr _
        | false => exact crB_A h (by_wr _) _
      | false =>
        rw [cond_false]
        cases decide (kdI s xs ac y x = 4) with
        | true =>
          rw [cond_true]
          cases decide (x = 0) with
          | true => exact hr _
          | false => exact crB_sil h _ _ _
        | false =>
          rw [cond_false]
          cases decide (kdI s xs ac y x = 5) with
          | true =>
            rw [cond_true]
            cases decide (x = 0) with
            | true => exact h
            | false => exact hr _
          | false => exact h
structure ArB (n m : Nat) (R : AR) : Prop where
  c : crB R.s = true
  u : allU R.ys = true
  l : R.ys.length ≤ n + 4
  m : R.bc.length ≤ m + 1
theorem bad_b (n m : Nat) (e : Int) : ArB n m (badR e) := ⟨crB_c0, rfl, by simp [badR], by simp [badR]⟩
theorem acZ_b {n m : Nat} {x : Int} {ys bc : List Int} {s : CD} (hx : byB x = true) (h : crB s = true) (hu : allU ys = true) (hl : ys.length ≤ n + 3) (hm : bc.length ≤ m + 1) (j : Nat) : ArB n m (acZ x ys bc s j) := by
  unfold acZ
  cases decide (400 ≤ ys.length) with
  | true => exact bad_b _ _ _
  | false => exact ⟨crB_H (crB_met h j) by0, allU_snoc hu (by_rg hx), by simp; omega, hm⟩
theorem acY_b {r : Nat} (hr : r ≤ 3) {s : CD} {xs ac : List Int} {x : Int} (hx : byB x = true) (h : crB s = true) (hu : allU xs = true) (t : Nat) : ArB xs.length ac.length (acY r s xs ac t x) := by
  unfold acY
  cases e : acP r s xs t with
  | none => exact bad_b _ _ _
  | some p =>
    obtain ⟨s', ys⟩ := p
    obtain ⟨a1, a2, a3⟩ := crB_acP r _ _ _ _ _ h e
    dsimp only
    cases frI s'.d ys x with
    | false => exact bad_b _ _ _
    | true => exact acZ_b hx a1 (a3 hu) (by omega) (by omega) _
theorem acI_b {s : CD} (h : crB s = true) {xs : List Int} (hu : allU xs = true) (ac : List Int) (y : Int) {x : Int} (hx : byB x = true) : ArB xs.length ac.length (acI s xs ac y x) := by
  unfold acI
  cases decide (keI s xs ac y x = 0) with
  | false => exact bad_b _ _ _
  | true =>
    rw [Bool.not_true, cond_false]
    cases decide (kdI s xs ac y x = 0) with
    | true => exact bad_b _ _ _
    | false =>
      rw [cond_false]
      cases decide (kdI s xs ac y x = 1) with
      | true => exact acZ_b hx h hu (by omega) (by simp) _
      | false =>
        rw [cond_false]
        cases decide (kdI s xs ac y x = 3) with
        | true => exact acY_b (by omega) hx h hu _
        | false =>
          rw [cond_false]
          cases decide (kdI s xs ac y x = 4) with
          | true => exact acY_b (by omega) hx h hu _
          | false =>
            rw [cond_false]
            cases decide (kdI s xs ac y x = 5) with
            | true => exact acY_b (by omega) hx h hu _
            | false => exact bad_b _ _ _
end Go.Proofs.YtojlmpcbplepcaaGreat

/- Chapter 10: the law tells is true of courses of bytes. -/
namespace Go.Proofs.YtojlmpcbplepcaaGreat
open Go Go.Eng
def gTl (s : CD) (xs ac : List Int) : Bool := crB s && (allU xs && (decide (xs.length ≤ 5000) && decide (ac.length ≤ 5000)))
theorem gTl_iff {s : CD} {xs ac : List Int} : gTl s xs ac = true ↔ crB s = true ∧ allU xs = true ∧ xs.length ≤ 5000 ∧ ac.length ≤ 5000 := by
  unfold gTl
  simp only [Bool.and_eq_true, decide_eq_true_eq]
theorem sm_true (s : CD) {ys bc : List Int} (h1 : ys.length ≤ 1000000) (h2 : bc.length ≤ 1000000) : nTl.SM s s ys bc ys bc = true := pB_iff.2 ⟨rfl, rfl, rfl, h1, h2⟩
theorem tlP_true {xs ac : List Int} {c c' : Bool} {Z : Option V} (h1 : c = true) (h2 : c' = true) : tlP nTl xs ac c c' Z = Z := by
  unfold tlP
  rw [decide_eq_true (show 0 + xs.length ≤ (xs ++ nTl.MB).length by rw [List.length_append]; omega), decide_eq_true (show 0 + ac.length ≤ (ac ++ nTl.MI).length by rw [List.length_append]; omega), h1, h2]; rfl
theorem tlN_true {c : Bool} {Z : Option V} (h : c = true) : tlN c Z = Z := by unfold tlN; rw [h]; rfl
theorem tlS_true {e : Bool} {a b : CD} {ys bc ys2 bc2 : List Int} {Z : Option V} (h : e = true) (h1 : b = a) (h2 : ys2 = ys) (h3 : bc2 = bc) (l1 : ys.length ≤ 1000000) (l2 : bc.length ≤ 1000000) : tlS nTl e a b ys bc ys2 bc2 Z = Z := by
  unfold tlS
  subst h1; subst h2; subst h3
  rw [h, sm_true _ l1 l2, decide_eq_true (show ys2.length ≤ 70368744177664 by omega), decide_eq_true (show bc2.length ≤ 70368744177664 by omega)]; rfl
theorem tlE_true {xs ac : List Int} (h1 : xs.length ≤ 5000) (h2 : ac.length ≤ 5000) : tlE nTl xs ac = some (.bool true) := by
  unfold tlE
  rw [show nTl.KB (xs ++ nTl.MB) xs = true from by show kpC _ _ = true; unfold kpC; rw [decide_eq_true (show xs ++ nTl.MB = xs ++ marks mbV from rfl), decide_eq_true (by omega)]; rfl,
    show nTl.KI (ac ++ nTl.MI) ac = true from by show kpCJ _ _ = true; unfold kpCJ; rw [decide_eq_true (show ac ++ nTl.MI = ac ++ marksJ mbVJ from rfl), decide_eq_true (by omega)]; rfl, decide_eq_true rfl, decide_eq_true rfl]; rfl
theorem bb (b : Bool) : (bif b then b else !b) = true := by cases b <;> rfl
theorem tl_true {s : CD} {xs ac : List Int} {y x : Int} (h : gTl s xs ac = true) (hy : byB y = true) (hx : byB x = true) : tlAll nTl s xs ac y x (!decide (doX s xs ac x = 0)) (!decide (rfX s xs ac y x = 0)) = some (.bool true) := by
  obtain ⟨hb, hu, hl, hm⟩ := gTl_iff.1 h
  have hok : okL xs = true := okL_iff.2 ⟨by omega, hu⟩
  have hC : nTl.C s xs ac = true := by show cTl s xs ac = true; unfold cTl; rw [hok, decide_eq_true (by omega), show lenOk ac = true from decide_eq_true (by omega), hb]; rfl
  have own1 : List.take xs.length (List.drop 0 (xs ++ nTl.MB)) = xs := by rw [List.drop_zero, List.take_append_of_le_length (Nat.le_refl _), List.take_length]
  have own2 : List.take ac.length (List.drop 0 (ac ++ nTl.MI)) = ac := by rw [List.drop_zero, List.take_append_of_le_length (Nat.le_refl _), List.take_length]
  have hY : nTl.BY y = true := hy
  have hX : nTl.BY x = true := hx
  unfold tlAll
  rw [show nTl.LT xs = true from decide_eq_true (by omega), show nTl.LT ac = true from decide_eq_true (by omega), own1, own2, cond_true, cond_true]
  have hYX : (nTl.BY y && nTl.BY x) = true := by rw [hY, hX]; rfl
  have hCY : (nTl.C s xs ac && (nTl.BY y && nTl.BY x)) = true := by rw [hC, hYX]; rfl
  have hCX : (nTl.C s xs ac && nTl.BY x) = true := by rw [hC, hX]; rfl
  have r1 : tlR nTl s xs ac y x (!decide (rfX s xs ac y x = 0)) xs ac = some (.bool true) := by
    by_cases he : rfX s xs ac y x = 0
    · have e1 : rfL s xs ac y x = xs := by unfold rfL; rw [decide_eq_true he]; rfl
      have e2 : rfK s xs ac y x = ac := by unfold rfK; rw [decide_eq_true he]; rfl
      rw [decide_eq_true he]
      show tlP nTl xs ac _ _ _ = _
      rw [tlP_true hCY (by rw [hC, hYX, show decide (nTl.RX s xs ac y x = 0) = true from decide_eq_true he]; rfl)]
      exact (tlS_true (decide_eq_true he) rfl (show xs = rfL s xs ac y x from e1.symm) (show ac = rfK s xs ac y x from e2.symm) (by show (rfL s xs ac y x).length ≤ _; rw [e1]; omega) (by show (rfK s xs ac y x).length ≤ _; rw [e2]; omega)).trans (tlE_true hl hm)
    · have e1 : rfL s xs ac y x = [] := by unfold rfL; rw [decide_eq_false he]; rfl
      have e2 : rfK s xs ac y x = [] := by unfold rfK; rw [decide_eq_false he]; rfl
      have e3 : rfC s xs ac y x = c0 := by unfold rfC; rw [decide_eq_false he]; rfl
      rw [decide_eq_false he]
      show tlP nTl xs ac _ _ _ = _
      rw [tlP_true hCY (by rw [hC, hYX, show decide (nTl.RX s xs ac y x = 0) = false from decide_eq_false he]; rfl)]
      exact (tlS_true (decide_eq_true rfl) (show c0 = rfC s xs ac y x from e3.symm) (show [] = rfL s xs ac y x from e1.symm) (show [] = rfK s xs ac y x from e2.symm) (by show (rfL s xs ac y x).length ≤ _; rw [e1]; simp) (by show (rfK s xs ac y x).length ≤ _; rw [e2]; simp)).trans (tlE_true hl hm)
  have r2 : tlA nTl s xs ac y x (!decide (rfX s xs ac y x = 0)) xs ac = some (.bool true) := by
    have hA := acI_b hb hu ac y hx
    have l1 := hA.l
    have l2 := hA.m
    unfold tlA
    rw [tlP_true hCY hCY]
    exact (tlS_true (decide_eq_true rfl) rfl rfl rfl (by show (acI s xs ac y x).ys.length ≤ _; omega) (by show (acI s xs ac y x).bc.length ≤ _; omega)).trans r1
  have r3 : tlD nTl s xs ac y x (!decide (doX s xs ac x = 0)) (!decide (rfX s xs ac y x = 0)) xs ac = some (.bool true) := by
    by_cases he : doX s xs ac x = 0
    · have e2 : doK s xs ac x = ac := by unfold doK; rw [decide_eq_true he]; rfl
      have l1 := (doL_b (s := s) (ac := ac) hu hx).2
      rw [decide_eq_true he]
      show tlP nTl xs ac _ _ _ = _
      rw [tlP_true hCX (by rw [hC, hX, show decide (nTl.DX s xs ac x = 0) = true from decide_eq_true he]; rfl)]
      exact (tlS_true (decide_eq_true he) rfl rfl (show ac = doK s xs ac x from e2.symm) (by show (doL s xs ac x).length ≤ _; omega) (by show (doK s xs ac x).length ≤ _; rw [e2]; omega)).trans (r2)
    · have e1 : doL s xs ac x = [] := by unfold doL; rw [decide_eq_false he]; rfl
      have e2 : doK s xs ac x = [] := by unfold doK; rw [decide_eq_false he]; rfl
      have e3 : doC s xs ac x = c0 := by unfold doC; rw [decide_eq_false he]; rfl
      rw [decide_eq_false he]
      show tlP nTl xs ac _ _ _ = _
      rw [tlP_true hCX (by rw [hC, hX, show decide (nTl.DX s xs ac x = 0) = false from decide_eq_false he]; rfl)]
      exact (tlS_true (decide_eq_true rfl) (show c0 = doC s xs ac x from e3.symm) (show [] = doL s xs ac x from e1.symm) (show [] = doK s xs ac x from e2.symm) (by show (doL s xs ac x).length ≤ _; rw [e1]; simp) (by show (doK s xs ac x).length ≤ _; rw [e2]; simp)).trans (r2)
  have hLV : nTl.S.MI (nTl.LV s xs ac) = true := by
    have := okL_len (lgV_ok s xs ac)
    exact decide_eq_true (show (lgV s xs ac).length ≤ 1000000 by omega)
  unfold tlX
  rw [tlP_true hC hC, tlP_true hC hC, tlP_true hC hC, tlP_true hCY hCY, tlP_true hC hC, tlP_true hC hC, tlP_true hC hC]
  unfold tlC
  rw [hLV, cond_true, tlN_true (bb _), tlN_true (bb _), tlN_true (decide_eq_true rfl), tlN_true (show nTl.S.EQ (nTl.LV s xs ac) (nTl.LV s xs ac) = true from eqI_iff.2 rfl), tlN_true (decide_eq_true rfl), tlN_true (by simp only [decide_true, Bool.and_self]),
    tlN_true (decide_eq_true rfl), tlN_true (decide_eq_true rfl), tlN_true (decide_eq_true rfl), tlN_true (decide_eq_true rfl), tlN_true (decide_eq_true rfl), tlN_true (decide_eq_true rfl), tlN_true (decide_eq_true rfl), r3]
theorem f59 (n1 n2 : Bool) {s : CD} {xs ac : List Int} {y x : Int} (h : gTl s xs ac = true) (hy : byB y = true) (hx : byB x = true) : FnOK Tryz.prog 4 [.agg (s.vs (.gs 0) (.gs 1)), .int .u8 y, .int .u8 x] (crsH n1 n2 xs ac) (.bool true) (crsH n1 n2 xs ac ++ []) := by
  have key := tl_true h hy hx
  have main : ∀ de re, evTl nTl s xs ac y x de re = some (.bool true) → FnOK Tryz.prog 4 [.agg (s.vs (.gs 0) (.gs 1)), .int .u8 y, .int .u8 x] (crsH n1 n2 xs ac) (.bool true) (crsH n1 n2 xs ac ++ []) := fun de re he =>
    crs_fn (orcTl_ok de re) noLoops_ok Tryz.func4 rfl he n1 n2
  cases h1 : (!decide (doX s xs ac x = 0)) <;> cases h2 : (!decide (rfX s xs ac y x = 0)) <;> rw [h1, h2] at key
  · exact main false false ((tl_eval1 nTl s xs ac y x).trans key)
  · exact main false true ((tl_eval2 nTl s xs ac y x).trans key)
  · exact main true false ((tl_eval3 nTl s xs ac y x).trans key)
  · exact main true true ((tl_eval4 nTl s xs ac y x).trans key)
end Go.Proofs.YtojlmpcbplepcaaGreat
