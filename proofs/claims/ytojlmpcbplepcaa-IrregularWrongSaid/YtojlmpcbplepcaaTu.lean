/- Chapter 10: a course turned round the table. -/
import Derived.Test.YtojlmpcbplepcaaMd3
import Derived.Test.YtojlmpcbplepcaaCt3
namespace Go.Proofs.Ytojlmpcbplepcaa
open Go Go.Eng
def rotQ (y : Nat) (q : Q4) : Q4 := ⟨q.at ((4 - y) % 4), q.at ((5 - y) % 4), q.at ((6 - y) % 4), q.at ((7 - y) % 4)⟩
def rotC (y : Nat) (s : CD) : CD := ⟨(s.d + y) % 4, rotQ y s.p, rotQ y s.a, s.h, rotQ y s.f⟩
theorem four {y : Nat} (h : y < 4) : y = 0 ∨ y = 1 ∨ y = 2 ∨ y = 3 := by omega
theorem rot_at {y k : Nat} (hy : y < 4) (hk : k < 4) (q : Q4) : (rotQ y q).at ((k + y) % 4) = q.at k := by
  rcases four hy with rfl | rfl | rfl | rfl <;> rcases four hk with rfl | rfl | rfl | rfl <;> rfl
theorem rot_set {y k : Nat} (hy : y < 4) (hk : k < 4) (q : Q4) (v : Int) : rotQ y (q.set v k) = (rotQ y q).set v ((k + y) % 4) := by
  rcases four hy with rfl | rfl | rfl | rfl <;> rcases four hk with rfl | rfl | rfl | rfl <;> rfl
theorem rot_q0 {y : Nat} (hy : y < 4) : rotQ y q0 = q0 := by
  rcases four hy with rfl | rfl | rfl | rfl <;> rfl
theorem rot_setP {y k : Nat} (hy : y < 4) (hk : k < 4) (s : CD) (v : Int) : rotC y (s.setP v k) = (rotC y s).setP v ((k + y) % 4) := by
  unfold rotC CD.setP; dsimp only; rw [rot_set hy hk]
theorem rot_setA {y k : Nat} (hy : y < 4) (hk : k < 4) (s : CD) (v : Int) : rotC y (s.setA v k) = (rotC y s).setA v ((k + y) % 4) := by
  unfold rotC CD.setA; dsimp only; rw [rot_set hy hk]
theorem rot_setF {y k : Nat} (hy : y < 4) (hk : k < 4) (s : CD) (v : Int) : rotC y (s.setF v k) = (rotC y s).setF v ((k + y) % 4) := by
  unfold rotC CD.setF; dsimp only; rw [rot_set hy hk]
theorem rot_setH (y : Nat) (s : CD) (v : Int) : rotC y (s.setH v) = (rotC y s).setH v := rfl
theorem rot_p {y k : Nat} (hy : y < 4) (hk : k < 4) (s : CD) : (rotC y s).p.at ((k + y) % 4) = s.p.at k := rot_at hy hk s.p
theorem rot_a {y k : Nat} (hy : y < 4) (hk : k < 4) (s : CD) : (rotC y s).a.at ((k + y) % 4) = s.a.at k := rot_at hy hk s.a
theorem rot_f {y k : Nat} (hy : y < 4) (hk : k < 4) (s : CD) : (rotC y s).f.at ((k + y) % 4) = s.f.at k := rot_at hy hk s.f
theorem rot_h (y : Nat) (s : CD) : (rotC y s).h = s.h := rfl
theorem rot_mate (y k : Nat) : mate ((k + y) % 4) = (mate k + y) % 4 := by unfold mate; omega
/-! ### the calls' side -/
theorem rcD_rot {d : Int} {y : Nat} {xs : List Int} (hd : 0 ≤ d ∧ d ≤ 3) (_hy : y < 4) (hl : xs.length ≤ 100000) : rcD ((d + y) % 4) xs = (rcD d xs + y) % 4 := by
  have hr := lastI_range xs
  obtain ⟨z, ez⟩ : ∃ z : Nat, lastI xs = z := ⟨(lastI xs).toNat, by omega⟩
  unfold rcD
  rw [ez, mk_is (by omega) (by omega), mk_is hd (by omega)]
  omega
theorem rcD_range {d : Int} {xs : List Int} (hd : 0 ≤ d ∧ d ≤ 3) (hl : xs.length ≤ 100000) : 0 ≤ rcD d xs ∧ rcD d xs < 4 := by
  have hr := lastI_range xs
  obtain ⟨z, ez⟩ : ∃ z : Nat, lastI xs = z := ⟨(lastI xs).toNat, by omega⟩
  unfold rcD
  rw [ez, mk_is hd (by omega)]
  omega
theorem ov_rot {d : Int} {y : Nat} {xs : List Int} (hd : 0 ≤ d ∧ d ≤ 3) (hy : y < 4) (h : okL xs = true) : ovI ((d + y) % 4) xs = ovI d xs := by
  obtain ⟨hl, hu⟩ := okL_iff.1 h
  obtain ⟨e1, e2⟩ := fol_rel (y := (y : Int)) (d := rcD d xs) (rcD_range hd hl) (by omega) (l := rcL xs) (allU_drop hu _)
  unfold ovI
  rw [rcD_rot hd hy hl, e1]
  by_cases he : (fol (rcD d xs) (rcL xs)).e = 0
  · rw [decide_eq_true he, Bool.true_and, Bool.true_and, (e2 he).ovr]
  · rw [decide_eq_false he]; rfl
theorem fr_rot {d : Int} {y : Nat} {xs : List Int} (hd : 0 ≤ d ∧ d ≤ 3) (hy : y < 4) (h : okL xs = true) {x : Int} (hx : 0 ≤ x ∧ x < 256) : frI ((d + y) % 4) xs x = frI d xs x := by
  obtain ⟨hl, hu⟩ := okL_iff.1 h
  have hu2 : allU (rcL xs ++ [x]) = true := by
    rw [allU_iff]
    intro c hc
    rcases List.mem_append.1 hc with hc | hc
    · exact allU_iff.1 (allU_drop hu _) c hc
    · rw [List.mem_singleton] at hc; subst hc; exact hx
  obtain ⟨e1, _⟩ := fol_rel (y := (y : Int)) (d := rcD d xs) (rcD_range hd hl) (by omega) hu2
  unfold frI
  rw [rcD_rot hd hy hl, e1]
/-- The seat in turn. -/
theorem tn_is {s : CD} {xs : List Int} (hd : 0 ≤ s.d ∧ s.d ≤ 3) (hl : xs.length ≤ 100000) : (tN s xs : Int) = (s.d + xs.length) % 4 ∧ tN s xs < 4 := by
  unfold tN trnI
  rw [show Int.ofNat xs.length = ((xs.length : Nat) : Int) from rfl, mk_is hd (by omega)]
  omega
theorem rot_d {y : Nat} (s : CD) : (rotC y s).d = (s.d + y) % 4 := rfl
theorem tn_rot {s : CD} {xs : List Int} {y : Nat} (hd : 0 ≤ s.d ∧ s.d ≤ 3) (hl : xs.length ≤ 100000) : tN (rotC y s) xs = (tN s xs + y) % 4 := by
  have h1 := tn_is hd hl
  have h2 := tn_is (s := rotC y s) (by rw [rot_d]; omega) hl
  rw [rot_d] at h2
  omega
theorem wr8_range (x : Int) : 0 ≤ wr .u8 x ∧ wr .u8 x < 256 := by
  have : wr .u8 x = x % 256 := rfl
  rw [this]; omega
theorem lg_rot {s : CD} {xs : List Int} {y : Nat} (hd : 0 ≤ s.d ∧ s.d ≤ 3) (hy : y < 4) (h : okL xs = true) {x : Int} (hx : 0 ≤ x ∧ x < 256) : lgI (rotC y s) xs x = lgI s xs x := by
  have ht := tn_is hd (okL_iff.1 h).1
  unfold lgI demI
  rw [tn_rot hd (okL_iff.1 h).1, rot_p hy ht.2, rot_a hy ht.2, rot_d, fr_rot hd hy h hx, fr_rot hd hy h (wr8_range _), rot_h]
theorem lgs_rot {s : CD} {xs : List Int} {y : Nat} (hd : 0 ≤ s.d ∧ s.d ≤ 3) (hy : y < 4) (h : okL xs = true) : lgsI (rotC y s) xs = lgsI s xs := by
  unfold lgsI
  refine List.filter_congr fun x hx => ?_
  unfold calls38 at hx
  rw [List.mem_map] at hx
  obtain ⟨n, hn, rfl⟩ := hx
  rw [List.mem_range] at hn
  exact lg_rot hd hy h (by omega)
theorem rl_rot {s : CD} {xs : List Int} {y z : Nat} (hd : 0 ≤ s.d ∧ s.d ≤ 3) (hz : z < 4) (hl : xs.length ≤ 100000) : rlI (rotC y s) xs (((z + y) % 4 : Nat) : Int) = rlI s xs (z : Int) := by
  have h1 := tn_is hd hl
  have h2 := tn_is (s := rotC y s) (by rw [rot_d]; omega) hl
  have e1 : trnI s xs = (tN s xs : Int) := by unfold tN; have : 0 ≤ trnI s xs := (mk_range _ _).1; omega
  have e2 : trnI (rotC y s) xs = (tN (rotC y s) xs : Int) := by unfold tN; have : 0 ≤ trnI (rotC y s) xs := (mk_range _ _).1; omega
  have h3 := tn_rot (y := y) hd hl
  unfold rlI
  rw [e1, e2, wr_u8_id (n := (((z + y) % 4 : Nat) : Int) + 4) (by omega), wr_u8_id (n := (z : Int) + 4) (by omega), wr_u8_id (by omega), wr_u8_id (by omega), Int.tmod_eq_emod_of_nonneg (by omega), Int.tmod_eq_emod_of_nonneg (by omega)]
  omega
theorem kd_rot {s : CD} {xs ac : List Int} {y z : Nat} (hd : 0 ≤ s.d ∧ s.d ≤ 3) (hy : y < 4) (hz : z < 4) (h : okL xs = true) (hr : rgtI s xs ac = true) (hr2 : rgtI (rotC y s) xs ac = true) {x : Int} (hx : 0 ≤ x ∧ x ≤ 37) :
    kdI (rotC y s) xs ac (((z + y) % 4 : Nat) : Int) x = kdI s xs ac (z : Int) x ∧ keI (rotC y s) xs ac (((z + y) % 4 : Nat) : Int) x = 0 ∧ keI s xs ac (z : Int) x = 0 := by
  have hl := (okL_iff.1 h).1
  refine ⟨?_, ?_, ?_⟩
  · unfold kdI kdO
    rw [hr, hr2, decide_eq_false (show ¬ (3 : Int) < (((z + y) % 4 : Nat) : Int) by omega), decide_eq_false (show ¬ (3 : Int) < (z : Int) by omega), rl_rot hd hz hl, rot_d, ov_rot hd hy h, lg_rot hd hy h (by omega), fr_rot hd hy h (by omega)]
  · unfold keI
    rw [hr2, decide_eq_false (show ¬ (3 : Int) < (((z + y) % 4 : Nat) : Int) by omega), decide_eq_true hx.2]; rfl
  · unfold keI
    rw [hr, decide_eq_false (show ¬ (3 : Int) < (z : Int) by omega), decide_eq_true hx.2]; rfl
end Go.Proofs.Ytojlmpcbplepcaa
