/- Chapter 10: what Made makes, turned round the table. -/
import Derived.Test.YtojlmpcbplepcaaTu2
namespace Go.Proofs.Ytojlmpcbplepcaa
open Go Go.Eng
theorem act_rot {s : CD} {xs ac : List Int} {y : Nat} (hd : 0 ≤ s.d ∧ s.d ≤ 3) (hy : y < 4) (h : okL xs = true) (hop : opI (rotC y s) xs ac = opI s xs ac) {x b w : Int} (hb : 0 ≤ b ∧ b ≤ 255) (ho : opI s xs ac = 0) :
    ∃ z : Nat, z < 4 ∧ (actI s xs ac x b w).1 = z ∧ (actI (rotC y s) xs ac x b w).1 = (((z + y) % 4 : Nat) : Int) ∧ (actI (rotC y s) xs ac x b w).2 = (actI s xs ac x b w).2 := by
  have hl := (okL_iff.1 h).1
  have ht := tn_is hd hl
  have ht2 := tn_rot (y := y) hd hl
  have e1 : trnI s xs = (tN s xs : Int) := by unfold tN; have : 0 ≤ trnI s xs := (mk_range _ _).1; omega
  have e2 : trnI (rotC y s) xs = (tN (rotC y s) xs : Int) := by unfold tN; have : 0 ≤ trnI (rotC y s) xs := (mk_range _ _).1; omega
  have hlv : lgV (rotC y s) xs ac = lgV s xs ac := by unfold lgV; rw [hop, lgs_rot hd hy h]
  have b6 := Int.tmod_eq_emod_of_nonneg (b := 6) hb.1
  have b4 := Int.tmod_eq_emod_of_nonneg (a := b % 6) (b := 4) (by omega)
  have seat : ∀ t : Nat, t < 4 → ∃ z : Nat, z < 4 ∧ seatI (t : Int) b = z ∧ (z : Int) = ((t : Int) + b % 6 % 4) % 4 := fun t h4 => by
    refine ⟨(((t : Int) + b % 6 % 4) % 4).toNat, by omega, ?_, by omega⟩
    unfold seatI
    rw [b6, b4, wr_u8_id (by omega), Int.tmod_eq_emod_of_nonneg (by omega)]; omega
  unfold actI
  dsimp only
  rw [hop, ho, decide_eq_true rfl, cond_true, cond_true, hlv, e1, e2, ht2]
  cases decide (w.tmod 3 = 2) && (true && decide (0 < (lgV s xs ac).length)) with
  | true => exact ⟨tN s xs, ht.2, rfl, rfl, rfl⟩
  | false =>
    rw [cond_false, cond_false]
    obtain ⟨z, z1, z2, z3⟩ := seat (tN s xs) ht.2
    obtain ⟨v, v1, v2, v3⟩ := seat ((tN s xs + y) % 4) (by omega)
    refine ⟨z, z1, z2, ?_, rfl⟩
    dsimp only
    rw [v2]
    omega
theorem act_over {s : CD} {xs ac : List Int} {x b w : Int} (hop : opI s xs ac ≠ 0) : (actI s xs ac x b w).1 = seatI 0 b ∧ (actI s xs ac x b w).2 = x.tmod 38 := by
  unfold actI
  dsimp only
  rw [decide_eq_false hop, Bool.false_and, Bool.and_false]
  exact ⟨rfl, rfl⟩
theorem stepR_over {s : CD} {xs ac : List Int} {z : Nat} (hz : z < 4) (hr : rgtI s xs ac = true) (ho : ovI s.d xs = true) (w : Int) {x : Int} (hx : 0 ≤ x ∧ x ≤ 37) : stepR s xs ac w (z : Int) x = ⟨0, s, xs, ac⟩ := by
  have k : kdI s xs ac (z : Int) x = 6 := by
    unfold kdI
    rw [hr, ho, decide_eq_false (show ¬ (3 : Int) < (z : Int) by omega), decide_eq_true hx.2]; rfl
  have e : (acI s xs ac (z : Int) x).e ≠ 0 := by
    have ke : keI s xs ac (z : Int) x = 0 := by
      unfold keI
      rw [hr, decide_eq_false (show ¬ (3 : Int) < (z : Int) by omega), decide_eq_true hx.2]; rfl
    unfold acI
    rw [ke, k]
    show (104 : Int) ≠ 0
    omega
  unfold stepR
  rw [k, decide_eq_false e, Bool.and_false]; rfl
theorem step_rot {s : CD} {xs ac : List Int} {y : Nat} (hy : y < 4) (h : RC s xs ac) (ho : HO s xs) (h2 : RC (rotC y s) xs ac) (ho2 : HO (rotC y s) xs) (hl : xs.length ≤ 396) {x b : Int} (w : Int) (hx : 0 ≤ x ∧ x ≤ 255) (hb : 0 ≤ b ∧ b ≤ 255) :
    stepI (rotC y s) xs ac x b w = rotR y (stepI s xs ac x b w) := by
  have hd := h.d
  have hok := h.ok (by omega)
  have hr := h.right ho (by omega)
  have hr2 := h2.right ho2 (by omega)
  have hv : ovI (rotC y s).d xs = ovI s.d xs := by rw [rot_d]; exact ov_rot hd hy hok
  have hop := h.op ho (by omega)
  have hop2 : opI (rotC y s) xs ac = opI s xs ac := by rw [h2.op ho2 (by omega), hop, hv]
  obtain ⟨z, z1, z2, z3, z4⟩ := h.act (w := w) hl hx hb
  obtain ⟨v, v1, v2, v3, v4⟩ := h2.act (w := w) hl hx hb
  unfold stepI
  cases hov : ovI s.d xs with
  | true =>
    rw [z1, v1, stepR_over z2 hr hov w ⟨z3, z4⟩, stepR_over v2 hr2 (hv.trans hov) w ⟨v3, v4⟩]; rfl
  | false =>
    rw [hov] at hop
    obtain ⟨u, u1, u2, u3, u4⟩ := act_rot (x := x) (w := w) hd hy hok hop2 hb hop
    rw [u2, u3, u4, stepR_rot hd hy u1 hok (by omega) hr hr2 w ⟨z3, z4⟩]
def rotS (y : Nat) (c : CS) : CS := ⟨rotC y c.s, c.xs, c.ac⟩
theorem actS_rot {y : Nat} (hy : y < 4) {c : CS} {m : Nat} (h : c.Ok m) (h2 : (rotS y c).Ok m) (hm : m ≤ 396) {ws : List Int} (hw : okW ws = true) {i : Nat} (hi : i * 3 + 3 ≤ ws.length) : (rotS y c).act ws i = rotS y (c.act ws i) := by
  have := step_rot hy h.rc h.ho h2.rc h2.ho (Nat.le_trans h.le hm) (aW ws (i * 3)) (byB_iff.1 (okW_at hw (show i * 3 < ws.length by omega))) (byB_iff.1 (okW_at hw (show i * 3 + 1 < ws.length by omega)))
  show CS.mk (stepI (rotC y c.s) c.xs c.ac (aX ws (i * 3)) (aB ws (i * 3)) (aW ws (i * 3))).s _ _ = _
  show CS.mk (stepI (rotC y c.s) c.xs c.ac (aX ws (i * 3)) (aB ws (i * 3)) (aW ws (i * 3))).s (stepI (rotC y c.s) c.xs c.ac (aX ws (i * 3)) (aB ws (i * 3)) (aW ws (i * 3))).ys (stepI (rotC y c.s) c.xs c.ac (aX ws (i * 3)) (aB ws (i * 3)) (aW ws (i * 3))).bc = _
  unfold aX aB aW at *
  rw [this]; rfl
theorem mdR_rot {y : Nat} (hy : y < 4) {ws : List Int} (hw : okW ws = true) : ∀ (n i : Nat) (c : CS) (m : Nat), c.Ok m → (rotS y c).Ok m → m + 4 * n ≤ 400 → (i + n) * 3 ≤ ws.length → mdR ws n i (rotS y c) = rotS y (mdR ws n i c)
  | 0, _, _, _, _, _, _, _ => rfl
  | n + 1, i, c, m, h, h2, hm, hl => by
    have q1 := (h.act (by omega) hw (i := i) (by omega)).1
    have q2 := (h2.act (by omega) hw (i := i) (by omega)).1
    have e := actS_rot hy h h2 (by omega) hw (i := i) (by omega)
    rw [e] at q2
    unfold mdR
    rw [e]
    exact mdR_rot hy hw n (i + 1) (c.act ws i) (m + 4) q1 q2 (by omega) (by rw [show i + 1 + n = i + (n + 1) by omega]; exact hl)
theorem mdI_rot {y : Nat} (hy : y < 4) {ws : List Int} (hw : okW ws = true) {d d2 : Int} (hd : 0 ≤ d) (e : d2.tmod 4 = (d.tmod 4 + y) % 4) : mdI d2 ws = rotS y (mdI d ws) := by
  have hd4 : 0 ≤ d.tmod 4 ∧ d.tmod 4 ≤ 3 := by rw [Int.tmod_eq_emod_of_nonneg hd]; omega
  have e2 : (CS.mk (crs0 (d2.tmod 4)) [] []) = rotS y ⟨crs0 (d.tmod 4), [], []⟩ := by
    rw [e]
    show CS.mk ⟨(d.tmod 4 + y) % 4, q0, q0, 0, q0⟩ [] [] = CS.mk ⟨(d.tmod 4 + y) % 4, rotQ y q0, rotQ y q0, 0, rotQ y q0⟩ [] []
    rw [rot_q0 hy]
  unfold mdI
  rw [e2]
  refine mdR_rot hy hw (min 40 (ws.length / 3)) 0 ⟨crs0 (d.tmod 4), [], []⟩ 0 (rc0 hd4) ?_ (by omega) (by omega)
  rw [← e2, e]
  exact rc0 (by omega)
end Go.Proofs.Ytojlmpcbplepcaa
