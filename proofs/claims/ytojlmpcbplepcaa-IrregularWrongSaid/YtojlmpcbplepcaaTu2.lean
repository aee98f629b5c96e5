/- Chapter 10: a course turned round the table: a step. -/
import Derived.Test.YtojlmpcbplepcaaTu
namespace Go.Proofs.Ytojlmpcbplepcaa
open Go Go.Eng
theorem rai_rot {y k : Nat} (hy : y < 4) (hk : k < 4) (s : CD) : raiI (rotC y s) ((k + y) % 4) = rotC y (raiI s k) := by
  unfold raiI
  rw [rot_p hy hk]
  cases decide (s.p.at k = 0)
  · rfl
  · exact (rot_setP hy hk s 1).symm
theorem sil_rot {y k j : Nat} (hy : y < 4) (hk : k < 4) (hj : j < 4) (s : CD) (x : Int) : silI suI (rotC y s) ((k + y) % 4) ((j + y) % 4) x = rotC y (silI suI s k j x) := by
  unfold silI
  rw [rot_f hy hj, rot_setF hy hj, rot_setP hy hk]
theorem met_rot {y k : Nat} (hy : y < 4) (hk : k < 4) (s : CD) : metI (rotC y s) ((k + y) % 4) = rotC y (metI s k) := by
  unfold metI
  rw [rot_p hy hk, rot_setA hy hk]
  cases decide (0 < s.p.at k)
  · rfl
  · rw [cond_true, cond_true, rot_setP hy hk]
theorem rf_rot {y z : Nat} (hy : y < 4) (hz : z < 4) (k : Int) (s : CD) (x : Int) : rfS k (rotC y s) ((z + y) % 4) x = rotC y (rfS k s z x) := by
  unfold rfS
  rw [rot_mate, rai_rot hy hz, rai_rot hy (mate_lt z), sil_rot hy hz (mate_lt z), ← rot_setA hy hz, ← rot_setH]
  cases decide (k = 1) || decide (k = 2) <;> cases decide (k = 3) <;> cases decide (k = 4) <;> cases decide (k = 5) <;> cases decide (x = 0) <;> rfl
theorem do_rot {y k : Nat} (hy : y < 4) (hk : k < 4) (xs : List Int) (s : CD) (x : Int) : doS ((k + y) % 4) xs (rotC y s) x = rotC y (doS k xs s x) := by
  have e1 : (bif decide (0 < (rotC y s).p.at ((k + y) % 4)) then (rotC y s).setP (wr .i64 ((rotC y s).p.at ((k + y) % 4) - 1)) ((k + y) % 4) else rotC y s) = rotC y (bif decide (0 < s.p.at k) then s.setP (wr .i64 (s.p.at k - 1)) k else s) := by
    rw [rot_p hy hk]
    cases decide (0 < s.p.at k)
    · rfl
    · rw [cond_true, cond_true, rot_setP hy hk]
  unfold doS
  dsimp only
  rw [e1]
  generalize (bif decide (0 < s.p.at k) then s.setP (wr .i64 (s.p.at k - 1)) k else s) = s1
  rw [rot_mate, rot_a hy hk, rot_p hy (mate_lt k), rot_h]
  have e2 : (bif decide (0 < s.a.at k) && (!psI xs && decide (s1.p.at (mate k) = 0)) then (rotC y s1).setP 1 ((mate k + y) % 4) else rotC y s1) = rotC y (bif decide (0 < s.a.at k) && (!psI xs && decide (s1.p.at (mate k) = 0)) then s1.setP 1 (mate k) else s1) := by
    cases decide (0 < s.a.at k) && (!psI xs && decide (s1.p.at (mate k) = 0))
    · rfl
    · rw [cond_true, cond_true, rot_setP hy (mate_lt k)]
  rw [e2]
  generalize (bif decide (0 < s.a.at k) && (!psI xs && decide (s1.p.at (mate k) = 0)) then s1.setP 1 (mate k) else s1) = s2
  rw [← rot_setA hy hk, sil_rot hy (mate_lt k) (mate_lt k), rot_setH]
  cases decide (0 < s.h) && !mnI s.h xs x <;> rfl
def rotR (y : Nat) (R : AR) : AR := ⟨R.e, rotC y R.s, R.ys, R.bc⟩
theorem okL_snoc {xs : List Int} {x : Int} (h : allU xs = true) (hl : xs.length < 100000) (hx : 0 ≤ x ∧ x < 256) : okL (xs ++ [x]) = true := by
  rw [okL_iff]
  refine ⟨by simp; omega, ?_⟩
  rw [allU_iff]
  intro c hc
  rcases List.mem_append.1 hc with hc | hc
  · exact allU_iff.1 h c hc
  · rw [List.mem_singleton] at hc; subst hc; exact hx
theorem met_d (s : CD) (k : Nat) : (metI s k).d = s.d := metI_d s k
theorem acP_rot {y : Nat} (hy : y < 4) : ∀ (r : Nat) (s : CD) (ys : List Int) (j : Nat), (0 ≤ s.d ∧ s.d ≤ 3) → allU ys = true → ys.length + r < 100000 → j < 4 →
    acP r (rotC y s) ys ((j + y) % 4) = (acP r s ys j).map fun p => (rotC y p.1, p.2)
  | 0, s, ys, j, _, _, _, _ => rfl
  | r + 1, s, ys, j, hd, hu, hl, hj => by
    unfold acP
    rw [rot_d, ov_rot hd hy (okL_iff.2 ⟨by omega, hu⟩)]
    cases ovI s.d ys with
    | true => rfl
    | false =>
      rw [cond_false, cond_false, met_rot hy hj, show ((j + y) % 4 + 1) % 4 = ((j + 1) % 4 + y) % 4 by omega]
      exact acP_rot hy r (metI s j) (ys ++ [0]) ((j + 1) % 4) (by rw [met_d]; exact hd) (okL_iff.1 (okL_snoc hu (by omega) (by omega))).2 (by simp; omega) (by omega)
theorem acP_keeps : ∀ (r : Nat) (s : CD) (ys : List Int) (j : Nat) {s' : CD} {zs : List Int}, acP r s ys j = some (s', zs) → allU ys = true → s'.d = s.d ∧ allU zs = true ∧ zs.length = ys.length + r
  | 0, s, ys, j, s', zs, h, hu => by
    simp only [acP, Option.some.injEq, Prod.mk.injEq] at h
    obtain ⟨rfl, rfl⟩ := h
    exact ⟨rfl, hu, rfl⟩
  | r + 1, s, ys, j, s', zs, h, hu => by
    unfold acP at h
    cases ho : ovI s.d ys with
    | true => rw [ho] at h; cases h
    | false =>
      rw [ho, cond_false] at h
      have hu2 : allU (ys ++ [0]) = true := by
        rw [allU_iff]
        intro c hc
        rcases List.mem_append.1 hc with hc | hc
        · exact allU_iff.1 hu c hc
        · rw [List.mem_singleton] at hc; subst hc; omega
      obtain ⟨h1, h2, h3⟩ := acP_keeps r _ _ _ h hu2
      exact ⟨h1.trans (met_d _ _), h2, by rw [h3]; simp; omega⟩
theorem acZ_rot {y k : Nat} (hy : y < 4) (hk : k < 4) (x : Int) (ys bc : List Int) (s : CD) : (acZ x ys bc (rotC y s) ((k + y) % 4)).e = (acZ x ys bc s k).e ∧ ((acZ x ys bc s k).e = 0 → acZ x ys bc (rotC y s) ((k + y) % 4) = rotR y (acZ x ys bc s k)) := by
  unfold acZ
  cases decide (400 ≤ ys.length) with
  | true => exact ⟨rfl, fun h => by cases h⟩
  | false =>
    refine ⟨rfl, fun _ => ?_⟩
    rw [cond_false, cond_false, met_rot hy hk, ← rot_setH]; rfl
theorem acY_rot {y t : Nat} (hy : y < 4) (ht : t < 4) {r : Nat} (hr : r ≤ 3) {s : CD} (hd : 0 ≤ s.d ∧ s.d ≤ 3) {xs ac : List Int} (hu : allU xs = true) (hl : xs.length ≤ 99990) {x : Int} (hx : 0 ≤ x ∧ x < 256) :
    (acY r (rotC y s) xs ac ((t + y) % 4) x).e = (acY r s xs ac t x).e ∧ ((acY r s xs ac t x).e = 0 → acY r (rotC y s) xs ac ((t + y) % 4) x = rotR y (acY r s xs ac t x)) := by
  unfold acY
  rw [acP_rot hy r s xs t hd hu (by omega) ht]
  cases hp : acP r s xs t with
  | none => exact ⟨rfl, fun h => by cases h⟩
  | some p =>
    obtain ⟨s', zs⟩ := p
    obtain ⟨k1, k2, k3⟩ := acP_keeps r s xs t hp hu
    dsimp only [Option.map]
    rw [rot_d, fr_rot (by rw [k1]; exact hd) hy (okL_iff.2 ⟨by omega, k2⟩) hx]
    cases frI s'.d zs x with
    | false => exact ⟨rfl, fun h => by cases h⟩
    | true =>
      simp only [Bool.not_true, cond_false]
      rw [show ((t + y) % 4 + r) % 4 = ((t + r) % 4 + y) % 4 by omega]
      exact acZ_rot hy (by omega) x zs ac s'
theorem ac_rot {s : CD} {xs ac : List Int} {y z : Nat} (hd : 0 ≤ s.d ∧ s.d ≤ 3) (hy : y < 4) (hz : z < 4) (h : okL xs = true) (hl : xs.length ≤ 99990) (hr : rgtI s xs ac = true) (hr2 : rgtI (rotC y s) xs ac = true) {x : Int} (hx : 0 ≤ x ∧ x ≤ 37) :
    (acI (rotC y s) xs ac (((z + y) % 4 : Nat) : Int) x).e = (acI s xs ac (z : Int) x).e ∧ ((acI s xs ac (z : Int) x).e = 0 → acI (rotC y s) xs ac (((z + y) % 4 : Nat) : Int) x = rotR y (acI s xs ac (z : Int) x)) := by
  obtain ⟨k1, k2, k3⟩ := kd_rot hd hy hz h hr hr2 hx
  have ht := tn_is hd (okL_iff.1 h).1
  have hu := (okL_iff.1 h).2
  unfold acI
  rw [k1, k2, k3, tn_rot hd (okL_iff.1 h).1]
  have bad : ∀ e, e ≠ 0 → (badR e).e = (badR e).e ∧ ((badR e).e = 0 → badR e = rotR y (badR e)) := fun e he => ⟨rfl, fun q => absurd q he⟩
  rw [decide_eq_true (rfl : (0 : Int) = 0)]
  simp only [Bool.not_true, cond_false]
  cases decide (kdI s xs ac (z : Int) x = 0)
  · cases decide (kdI s xs ac (z : Int) x = 1)
    · cases decide (kdI s xs ac (z : Int) x = 3)
      · cases decide (kdI s xs ac (z : Int) x = 4)
        · cases decide (kdI s xs ac (z : Int) x = 5)
          · exact bad 104 (by omega)
          · exact acY_rot hy ht.2 (by omega) hd hu hl (by omega)
        · exact acY_rot hy ht.2 (by omega) hd hu hl (by omega)
      · exact acY_rot hy ht.2 (by omega) hd hu hl (by omega)
    · exact acZ_rot hy ht.2 x xs (ac ++ [(xs.length : Int)]) s
  · exact bad 6 (by omega)
theorem stepR_rot {s : CD} {xs ac : List Int} {y z : Nat} (hd : 0 ≤ s.d ∧ s.d ≤ 3) (hy : y < 4) (hz : z < 4) (h : okL xs = true) (hl : xs.length ≤ 99990) (hr : rgtI s xs ac = true) (hr2 : rgtI (rotC y s) xs ac = true) (w : Int) {x : Int} (hx : 0 ≤ x ∧ x ≤ 37) :
    stepR (rotC y s) xs ac w (((z + y) % 4 : Nat) : Int) x = rotR y (stepR s xs ac w (z : Int) x) := by
  obtain ⟨k1, _, _⟩ := kd_rot hd hy hz h hr hr2 hx
  obtain ⟨a1, a2⟩ := ac_rot (ac := ac) hd hy hz h hl hr hr2 hx
  have ht := tn_is hd (okL_iff.1 h).1
  unfold stepR
  rw [k1, a1, tn_rot hd (okL_iff.1 h).1, do_rot hy ht.2, Int.toNat_natCast, Int.toNat_natCast, rf_rot hy hz]
  by_cases hk : kdI s xs ac (z : Int) x = 0
  · rw [decide_eq_true hk]; rfl
  · rw [decide_eq_false hk]
    by_cases he : (acI s xs ac (z : Int) x).e = 0
    · rw [a2 he]
      cases decide (w.tmod 3 = 0) && decide ((acI s xs ac (z : Int) x).e = 0) <;> rfl
    · rw [decide_eq_false he, Bool.and_false]; rfl
end Go.Proofs.Ytojlmpcbplepcaa
