/- Texts merged: Tu4, Tv3. -/
import Derived.Test.YtojlmpcbplepcaaTu3
import Derived.Test.YtojlmpcbplepcaaTv
/- Chapter 10: the contract, turned round the table. -/
namespace Go.Proofs.Ytojlmpcbplepcaa
open Go Go.Eng
theorem fdB_some (xs : List Int) (dn : Int) (z : Nat) (hb : isBid (xs.getD z 0) = true) (hd : dnZ (xs.getD z 0) = dn) : ∀ (n i : Nat), i ≤ z → (z - i) % 2 = 0 → z - i < 2 * n → ∃ j, fdB xs dn z n i = some j ∧ j ≤ z
  | 0, i, _, _, h => by omega
  | n + 1, i, hi, he, hn => by
    unfold fdB
    rw [decide_eq_true hi, cond_true]
    by_cases hz : i = z
    · rw [hz, hb, hd, decide_eq_true rfl]
      exact ⟨z, rfl, Nat.le_refl z⟩
    · cases hc : isBid (xs.getD i 0) && decide (dnZ (xs.getD i 0) = dn) with
      | true => exact ⟨i, rfl, hi⟩
      | false => exact fdB_some xs dn z hb hd n (i + 2) (by omega) (by omega) (by omega)
theorem lbI_at {xs : List Int} (h : hasB xs = true) : xs.getD (lastI xs).toNat 0 = lbI xs := by unfold lbI; rw [h]; rfl
theorem conQ_rot {s : CD} {xs : List Int} {y : Nat} (hd : 0 ≤ s.d ∧ s.d ≤ 3) (hl : xs.length ≤ 100000) (hb : hasB xs = true) :
    ∃ q : Q4, 0 < q.a ∧ (0 ≤ q.d ∧ q.d ≤ 3) ∧ conQ s xs = q ∧ conQ (rotC y s) xs = { q with d := (q.d + y) % 4 } := by
  have hr := lastI_range xs
  have hz := hr.2.2.1 hb
  have hbid := (lbI_range xs).1 hb
  have e1 := lbI_at hb
  obtain ⟨j, hj, hjz⟩ := fdB_some xs (dnZ (lbI xs)) (lastI xs).toNat (by rw [e1]; exact hbid) (by rw [e1]) ((lastI xs).toNat + 1) ((lastI xs).toNat % 2) (by omega) (by omega) (by omega)
  have hjl : j ≤ 100000 := by omega
  refine ⟨⟨lvZ (lbI xs), dnZ (lbI xs), mxL (xs.drop ((lastI xs).toNat + 1)) 0, mkI s.d (j : Int)⟩, ?_, ?_, ?_, ?_⟩
  · show 0 < lvZ (lbI xs)
    unfold lvZ
    rw [hbid, cond_true]
    have := (lv_pos hbid).1
    omega
  · show 0 ≤ mkI s.d (j : Int) ∧ mkI s.d (j : Int) ≤ 3
    rw [mk_is hd (by omega)]; omega
  · unfold conQ
    rw [hb, hj]; rfl
  · unfold conQ
    rw [hb, hj]
    show Q4.mk _ _ _ (mkI (rotC y s).d (j : Int)) = _
    rw [rot_d, mk_is (d := (s.d + y) % 4) (by omega) (by omega)]
    dsimp only
    rw [mk_is hd (by omega)]
    congr 1
    omega
theorem con_rot {s : CD} {xs ac : List Int} {y : Nat} (hy : y < 4) (h : RC s xs ac) (ho : HO s xs) (h2 : RC (rotC y s) xs ac) (ho2 : HO (rotC y s) xs) (hl : xs.length ≤ 396) :
    conE (rotC y s) xs ac = conE s xs ac ∧ ((conI s xs ac = q0 ∧ conI (rotC y s) xs ac = q0) ∨ (conE s xs ac = 0 ∧ ∃ q : Q4, 0 < q.a ∧ (0 ≤ q.d ∧ q.d ≤ 3) ∧ conI s xs ac = q ∧ conI (rotC y s) xs ac = { q with d := (q.d + y) % 4 })) := by
  have hop : opI (rotC y s) xs ac = opI s xs ac := by rw [h2.op ho2 (by omega), h.op ho (by omega), rot_d, ov_rot h.d hy (h.ok (by omega))]
  have he : conE (rotC y s) xs ac = conE s xs ac := by unfold conE; rw [hop]
  refine ⟨he, ?_⟩
  unfold conI
  rw [he]
  by_cases h0 : conE s xs ac = 0
  · rw [decide_eq_true h0]
    cases hb : hasB xs with
    | true =>
      obtain ⟨q, q1, q2, q3, q4⟩ := conQ_rot (y := y) h.d (by omega) hb
      exact .inr ⟨h0, q, q1, q2, q3, q4⟩
    | false =>
      refine .inl ⟨?_, ?_⟩
      · unfold conQ; rw [hb]; rfl
      · unfold conQ; rw [hb]; rfl
  · rw [decide_eq_false h0]
    exact .inl ⟨rfl, rfl⟩
theorem lead_rot {s : CD} {xs ac : List Int} {y : Nat} (hy : y < 4) (h : RC s xs ac) (ho : HO s xs) (h2 : RC (rotC y s) xs ac) (ho2 : HO (rotC y s) xs) (hl : xs.length ≤ 396) : leadV (rotC y s) xs ac = leadV s xs ac := by
  obtain ⟨e1, e2⟩ := con_rot hy h ho h2 ho2 hl
  rcases e2 with ⟨q1, q2⟩ | ⟨h0, q, qa, qd, q1, q2⟩
  · have el : leadE (rotC y s) xs ac = leadE s xs ac := by unfold leadE; rw [e1, q1, q2]
    have ne : leadE s xs ac ≠ 0 := by
      unfold leadE
      by_cases h0 : conE s xs ac = 0
      · rw [decide_eq_true h0, q1]
        show (6 : Int) ≠ 0
        omega
      · rw [decide_eq_false h0]; exact h0
    unfold leadV
    rw [el, decide_eq_false ne]; rfl
  · have en : ldN q.a q.b q.c ((q.d + y) % 4) = ldN q.a q.b q.c q.d := by unfold ldN; rw [decide_eq_false (show ¬ 3 < (q.d + y) % 4 by omega), decide_eq_false (show ¬ 3 < q.d by omega)]
    have el : leadE (rotC y s) xs ac = leadE s xs ac := by
      unfold leadE
      rw [e1, q1, q2]
      show (bif _ then _ else ldE q.a q.b q.c ((q.d + y) % 4)) = bif _ then _ else ldE q.a q.b q.c q.d
      unfold ldE
      rw [en]
    unfold leadV
    rw [el]
    by_cases h0 : leadE s xs ac = 0
    · rw [decide_eq_true h0, cond_true, cond_true, q1, q2]
      have hn : ldN q.a q.b q.c q.d = false := by
        cases hq : ldN q.a q.b q.c q.d with
        | false => rfl
        | true =>
          exfalso
          have : leadE s xs ac = ldE q.a q.b q.c q.d := by
            unfold leadE
            rw [‹conE s xs ac = 0›, q1]; rfl
          rw [this] at h0
          unfold ldE at h0
          rw [hq, decide_eq_false (show ¬ q.a = 0 by omega)] at h0
          exact absurd h0 (by show (2 : Int) ≠ 0; omega)
      show (rotC y s).f.at (ldV q.a q.b q.c ((q.d + y) % 4)).toNat = s.f.at (ldV q.a q.b q.c q.d).toNat
      unfold ldV
      rw [en, hn, decide_eq_false (show ¬ q.a = 0 by omega), Bool.or_false, cond_false, cond_false, Int.tmod_eq_emod_of_nonneg (by omega), Int.tmod_eq_emod_of_nonneg (by omega)]
      rw [show (((q.d + y) % 4 + 1) % 4).toNat = (((q.d + 1) % 4).toNat + y) % 4 by omega]
      exact rot_f hy (by omega) s
    · rw [decide_eq_false h0]; rfl
end Go.Proofs.Ytojlmpcbplepcaa

/- Chapter 10: the law IrregularTurned. -/
namespace Go.Proofs.Ytojlmpcbplepcaa
open Go Go.Eng
theorem q4e_self (q : Q4) : q4e q q = true := by unfold q4e; simp
theorem tuY_true {c : CS} {z : Nat} (hz : z < 4) (h : c.Ok 160) (h2 : (rotS z c).Ok 160) : tuY nL (z : Int) c.s c.xs c.ac (rotC z c.s) c.xs c.ac = some (.bool true) := by
  have hl := h.le
  obtain ⟨e1, e2⟩ := con_rot hz h.rc h.ho h2.rc h2.ho (by omega)
  have e3 := lead_rot hz h.rc h.ho h2.rc h2.ho (by omega)
  have hok : okL c.xs = true := h.rc.ok (by omega)
  unfold tuY tuZ
  rw [show nL.E.OK c.xs = true from hok, show nL.F.OK c.xs = true from hok, show nL.E.CE c.s c.xs c.ac = conE c.s c.xs c.ac from rfl, show nL.E.CE (rotC z c.s) c.xs c.ac = conE (rotC z c.s) c.xs c.ac from rfl, show nL.E.CQ c.s c.xs c.ac = conI c.s c.xs c.ac from rfl, show nL.E.CQ (rotC z c.s) c.xs c.ac = conI (rotC z c.s) c.xs c.ac from rfl,
    show nL.LV c.s c.xs c.ac = leadV c.s c.xs c.ac from rfl, show nL.LV (rotC z c.s) c.xs c.ac = leadV (rotC z c.s) c.xs c.ac from rfl, e1, e3, decide_eq_true (rfl : leadV c.s c.xs c.ac = leadV c.s c.xs c.ac), decide_eq_true (rfl : conE c.s c.xs c.ac = conE c.s c.xs c.ac)]
  rcases e2 with ⟨q1, q2⟩ | ⟨h0, q, qa, qd, q1, q2⟩
  · rw [q1, q2]
    cases decide (conE c.s c.xs c.ac = 0) <;> rfl
  · rw [h0, q1, q2, decide_eq_true qa, wr_u8_id (by omega), Int.tmod_eq_emod_of_nonneg (by omega)]
    simp
theorem tuW_true {c : CS} {z : Nat} (hz : z < 4) (h : c.Ok 160) (h2 : (rotS z c).Ok 160) : tuW nL (z : Int) c.s c.xs c.ac (rotC z c.s) c.xs c.ac (nTu.RO (z : Int) c.s ⟨(wr .u8 (c.s.d + z)).tmod 4, c.s.p, c.s.a, c.s.h, c.s.f⟩) = some (.bool true) := by
  have hl := h.le
  have hd := h.rc.d
  have hal := h.rc.gc.len
  have ed : (wr .u8 (c.s.d + z)).tmod 4 = (c.s.d + z) % 4 := by rw [wr_u8_id (by omega), Int.tmod_eq_emod_of_nonneg (by omega)]
  have eT : nTu.RO (z : Int) c.s ⟨(wr .u8 (c.s.d + z)).tmod 4, c.s.p, c.s.a, c.s.h, c.s.f⟩ = rotC z c.s := by rw [ed]; rfl
  rw [eT]
  unfold tuW
  rw [show nL.KL c.xs = true from decide_eq_true (by omega), show nL.KL c.ac = true from decide_eq_true (by omega), show nL.EQ c.xs c.xs = true from eqI_iff.2 rfl, show nL.EQ c.ac c.ac = true from eqI_iff.2 rfl, decide_eq_true (rfl : (rotC z c.s).d = (rotC z c.s).d), decide_eq_true (rfl : (rotC z c.s).h = (rotC z c.s).h), q4e_self, q4e_self, q4e_self]
  exact tuY_true hz h h2
theorem tuCd : codesB [(tuLp, tuLp)] = true := by rw [codesB_iff]; intro x hx; simp at hx; rw [hx]
theorem turned_true {d y : Int} {ws : List Int} (hd : 0 ≤ d) (hw : okW ws = true) (hy : 0 ≤ y) : evalFn Try.prog (orcW nL tabAw plainL) (tuL nTu) 100 5 Try.f5 [.int .u8 d, .gs 0, .int .u8 y] (actsH false ws) (fun v _ => some v) = some (.bool true) := by
  have key := turned_eval nL nTu d y ws
  have hd4 : 0 ≤ d.tmod 4 ∧ d.tmod 4 ≤ 3 := by rw [Int.tmod_eq_emod_of_nonneg hd]; omega
  obtain ⟨z, hz⟩ : ∃ z : Nat, y.tmod 4 = z := ⟨(y.tmod 4).toNat, by rw [Int.tmod_eq_emod_of_nonneg hy]; omega⟩
  have hz4 : z < 4 := by rw [Int.tmod_eq_emod_of_nonneg hy] at hz; omega
  rw [hz, wr_u8_id (n := d.tmod 4 + z) (by omega)] at key
  have hm := (made_ok hd hw).1
  have hm2 := (made_ok (d := d.tmod 4 + z) (by omega) hw).1
  have er : mdI (d.tmod 4 + z) ws = rotS z (mdI d ws) := mdI_rot hz4 hw hd (by rw [Int.tmod_eq_emod_of_nonneg (a := d.tmod 4 + z) (by omega)])
  have ok1 : nL.M.OK d ws = true := by show (decide (0 ≤ d) && okW ws) = true; rw [decide_eq_true hd, hw]; rfl
  have ok2 : nL.M.OK (d.tmod 4 + z) ws = true := by show (decide (0 ≤ d.tmod 4 + (z : Int)) && okW ws) = true; rw [decide_eq_true (by omega), hw]; rfl
  rw [ok1, ok2, tuCd, decide_eq_true (show (0 : Int) = 0 ∧ 0 ≤ (z : Int) ∧ (z : Int) ≤ 3 by omega)] at key
  rw [er] at hm2
  have w := tuW_true hz4 hm hm2
  rw [key]
  show tuW nL (z : Int) (mdI d ws).s (mdI d ws).xs (mdI d ws).ac (mdI (d.tmod 4 + z) ws).s (mdI (d.tmod 4 + z) ws).xs (mdI (d.tmod 4 + z) ws).ac _ = _
  rw [er]
  exact w
end Go.Proofs.Ytojlmpcbplepcaa
