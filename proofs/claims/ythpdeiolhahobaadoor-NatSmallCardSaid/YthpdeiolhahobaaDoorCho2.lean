/- Chapter 2: the law NatChooses is true. -/
import Derived.Test.YthpdeiolhahobaaDoorRing2
namespace Go.Proofs.YthpdeiolhahobaaDoor
open Go Go.Eng
def C0 : NC := ⟨N0, chZ, chE⟩
theorem tabC0_ok : PTabOk Tryd.prog (tabC C0) := by
  refine addTab_ok ?_ tabN_ok
  intro args c v h _
  unfold gChV at h
  split at h
  · cases h; exact choose_p _ _
  · cases h
theorem orcC_ok : OracleOk Tryd.prog (orcC C0) := inl_ok (hOrc_ok hTabN_ok) ftab_ok tabC0_ok plainL_ok mixed 20
theorem two_lt {m : Nat} (h : m < 128) : (2 : Nat) ^ m < 340282366920938463463374607431768211456 := by
  have h2 := Nat.pow_lt_pow_right (a := 2) (by decide) h
  have h3 : (2 : Nat) ^ 128 = 340282366920938463463374607431768211456 := by decide
  omega
theorem addZ_eq {x y : Int} (h : x + y < 340282366920938463463374607431768211456) : addZ x y = x + y ∧ addE x y = 0 := by
  unfold addZ addE; rw [decide_eq_true h]; exact ⟨rfl, rfl⟩
theorem cs_loop (rd : Option Nat) (m : Nat) (hm : m < 128) : ∀ i : Nat, i ≤ m + 1 →
    SimC Tryd.prog 0 rd (.loop csLp) (csT.at [.i (m : Int), .i (i : Int), .i (w0 (cs m i : Nat)), .i (w1 (cs m i : Nat)), .i (w2 (cs m i : Nat)), .i (w3 (cs m i : Nat))]) (.exit 0)
      (csX.at [.i (m : Int), .i (w0 ((2 ^ m : Nat) : Int)), .i (w1 ((2 ^ m : Nat) : Int)), .i (w2 ((2 ^ m : Nat) : Int)), .i (w3 ((2 ^ m : Nat) : Int))]) := by
  refine loop_of_rounds (C := orcC C0) (L := noLoops) (N := 200) (me := 8) (T := csT) (T' := csX) orcC_ok mixed noLoops_ok (by kernel_rfl) (by kernel_rfl) (X := Nat)
    (fun i => [.i (m : Int), .i (i : Int), .i (w0 (cs m i : Nat)), .i (w1 (cs m i : Nat)), .i (w2 (cs m i : Nat)), .i (w3 (cs m i : Nat))]) (fun i => i ≤ m + 1) (fun i => m + 1 - i)
    (fun _ => (.exit 0, [.i (m : Int), .i (w0 ((2 ^ m : Nat) : Int)), .i (w1 ((2 ^ m : Nat) : Int)), .i (w2 ((2 ^ m : Nat) : Int)), .i (w3 ((2 ^ m : Nat) : Int))])) ?_
  intro i hi
  have h := cs_round C0 rd m i (w0 (cs m i : Nat)) (w1 (cs m i : Nat)) (w2 (cs m i : Nat)) (w3 (cs m i : Nat))
  have h2 := two_lt hm
  have h3 := cs_le m i
  rw [show C0.n.inn = inN from rfl, inN_w, show C0.n.iq (C0.ch m i) = true from iq0 _, show C0.n.z = nval from rfl, nval_id ⟨by omega, by omega⟩] at h
  rcases Nat.lt_or_ge m i with hlt | hge
  · obtain rfl : i = m + 1 := by omega
    rw [decide_eq_false (by omega), cs_all] at h
    rw [cs_all]
    exact ⟨_, _, _, h, codes0, .inr ⟨by simp, rfl⟩⟩
  · have h4 := cs_le m (i + 1)
    have hc : chZ (m : Int) (i : Int) = (ch m i : Nat) := by
      rw [chZ_eq ⟨by omega, by omega⟩, if_pos (by omega)]; rfl
    have hl := ch_lt128 (n := m) (k := i) (by omega)
    simp only [cs] at h4
    obtain ⟨e1, e2⟩ := addZ_eq (x := ((cs m i : Nat) : Int)) (y := ((ch m i : Nat) : Int)) (by omega)
    have e3 : C0.n.add ((cs m i : Nat) : Int) (C0.n.q4 (C0.ch m i)) = ((cs m (i + 1) : Nat) : Int) := by
      show addZ _ (N0.q4 (chZ m i)) = _
      rw [hc, q40 ⟨by omega, by omega⟩, e1]
      simp only [cs]; omega
    have e4 : C0.n.addE ((cs m i : Nat) : Int) (C0.n.q4 (C0.ch m i)) = 0 := by
      show addE _ (N0.q4 (chZ m i)) = _
      rw [hc, q40 ⟨by omega, by omega⟩, e2]
    have e5 : C0.che (m : Int) = 0 := chE_zero (n := (m : Int)) ⟨by omega, by omega⟩
    rw [decide_eq_true (by omega), e3, e4, e5, wr64 (x := (i : Int) + 1) (by omega) (by omega)] at h
    exact ⟨_, _, _, h, codes0, .inl ⟨rfl, i + 1, rfl, by omega, by omega, rfl⟩⟩
theorem csTr_pick {m : Int} : ∀ {n : Nat} {e : XE} {s : AS}, (csTr m n).pick = some (e, s) → ∃ k : Nat, k < n ∧ m = k ∧ e = .exit 0 ∧ s = csX.at [.i (k : Int), .i (w0 ((2 ^ k : Nat) : Int)), .i (w1 ((2 ^ k : Nat) : Int)), .i (w2 ((2 ^ k : Nat) : Int)), .i (w3 ((2 ^ k : Nat) : Int))]
  | 0, e, s, h => by simp [csTr, Fin.pick] at h
  | n + 1, e, s, h => by
    simp only [csTr, Fin.pick] at h
    cases hd : decide (m = (n : Int)) with
    | true =>
      rw [hd, cond_true] at h
      cases h
      exact ⟨n, by omega, of_decide_eq_true hd, rfl, rfl⟩
    | false =>
      rw [hd, cond_false] at h
      obtain ⟨k, h1, h2⟩ := csTr_pick h
      exact ⟨k, by omega, h2⟩
theorem csL_ok : loopsOk Tryd.prog csL := by
  intro n g hg
  simp only [csL, sums] at hg
  split at hg
  · cases hg
    refine lsumF_ok (by kernel_rfl) (fun rd ps e1 st1 hq => ?_)
    unfold csTree at hq
    split at hq
    · rename_i m i a b c d
      simp only [Fin.pick] at hq
      cases hc : pB (0 ≤ m ∧ m < 128 ∧ i = 0 ∧ a = 0 ∧ b = 0 ∧ c = 0 ∧ d = 0) with
      | false => rw [hc] at hq; cases hq
      | true =>
        rw [hc, cond_true] at hq
        rw [pB_iff] at hc
        obtain ⟨_, _, rfl, rfl, rfl, rfl, rfl⟩ := hc
        obtain ⟨k, hk, rfl, rfl, rfl⟩ := csTr_pick hq
        have hz : w0 ((cs k 0 : Nat) : Int) = 0 ∧ w1 ((cs k 0 : Nat) : Int) = 0 ∧ w2 ((cs k 0 : Nat) : Int) = 0 ∧ w3 ((cs k 0 : Nat) : Int) = 0 := by simp [cs, w0, w1, w2, w3]
        have hl := cs_loop rd k hk 0 (by omega)
        rw [hz.1, hz.2.1, hz.2.2.1, hz.2.2.2] at hl
        exact hl
    · cases hq
  · cases hg
theorem csRes_true {m : Nat} : ∀ {n : Nat}, m < n → csRes (m : Int) n = some (.bool true)
  | n + 1, h => by
    unfold csRes
    by_cases hm : (m : Int) = (n : Int)
    · rw [decide_eq_true hm]; rfl
    · rw [decide_eq_false hm, cond_false]; exact csRes_true (by omega)
theorem csAll_true {M k : Int} (hM : 0 ≤ M ∧ M < 128) (hk : -9223372036854775808 ≤ k ∧ k < 9223372036854775808) : csAll C0 M k = some (.bool true) := by
  have rest : csRest M = some (.bool true) := by
    unfold csRest
    have hcd : codesB [(csLp, csLp)] = true := by rw [codesB_iff]; intro x hx; simp at hx; rw [hx]
    rw [hcd, pB_iff.2 ⟨hM.1, hM.2, rfl, rfl, rfl, rfl, rfl⟩]
    have := csRes_true (m := M.toNat) (n := 128) (by omega)
    rw [show ((M.toNat : Nat) : Int) = M by omega] at this
    exact this
  have hn1 : wr .i64 (M + 1) = M + 1 := wr64 (by omega) (by omega)
  have b1 := chZ_range (n := M) (k := k) (by omega)
  have b2 := chZ_range (n := M) (k := wr .i64 (k - 1)) (by omega)
  have b3 := chZ_range (n := M + 1) (k := k) (by omega)
  -- Pascal
  have hp : chZ M k + chZ M (wr .i64 (k - 1)) = chZ (M + 1) k := by
    rw [chZ_eq (n := M) (k := k) (by omega), chZ_eq (n := M) (k := wr .i64 (k - 1)) (by omega), chZ_eq (n := M + 1) (by omega)]
    by_cases hk1 : k = -9223372036854775808
    · subst hk1
      rw [show wr .i64 ((-9223372036854775808 : Int) - 1) = 9223372036854775807 by decide, if_neg (by omega), if_neg (by omega), if_neg (by omega)]; rfl
    · rw [wr64 (x := k - 1) (by omega) (by omega)]
      by_cases h0 : k < 0
      · rw [if_neg (by omega), if_neg (by omega), if_neg (by omega)]; rfl
      by_cases h1 : M + 1 < k
      · rw [if_neg (by omega), if_neg (by omega), if_neg (by omega)]; rfl
      obtain ⟨m, rfl⟩ : ∃ m : Nat, M = m := ⟨M.toNat, by omega⟩
      obtain ⟨j, rfl⟩ : ∃ j : Nat, k = j := ⟨k.toNat, by omega⟩
      rw [if_pos (show (0 : Int) ≤ (j : Int) ∧ (j : Int) ≤ (m : Int) + 1 by omega), show ((m : Int) + 1).toNat = m + 1 by omega, show ((j : Int)).toNat = j from rfl, show ((m : Int)).toNat = m from rfl]
      cases j with
      | zero => rw [if_pos (by omega), if_neg (by omega), ch_zero, ch_zero]; rfl
      | succ j =>
        rw [show (((j + 1 : Nat) : Int) - 1).toNat = j by omega, ch]
        rw [if_pos (show (0 : Int) ≤ ((j + 1 : Nat) : Int) - 1 ∧ ((j + 1 : Nat) : Int) - 1 ≤ (m : Int) by omega)]
        by_cases h2 : ((j + 1 : Nat) : Int) ≤ (m : Int)
        · rw [if_pos (by omega)]; omega
        · rw [if_neg (by omega), ch_big (n := m) (k := j + 1) (by omega)]; omega
  obtain ⟨e1, e2⟩ := addZ_eq (x := chZ M k) (y := chZ M (wr .i64 (k - 1))) (by omega)
  have f1 : C0.n.add (C0.n.q4 (C0.ch M k)) (C0.n.q4 (C0.ch M (wr .i64 (k - 1)))) = chZ (M + 1) k := by
    show addZ (N0.q4 (chZ M k)) (N0.q4 (chZ M (wr .i64 (k - 1)))) = _
    rw [q40 b1, q40 b2, e1, hp]
  have f2 : C0.n.addE (C0.n.q4 (C0.ch M k)) (C0.n.q4 (C0.ch M (wr .i64 (k - 1)))) = 0 := by
    show addE (N0.q4 (chZ M k)) (N0.q4 (chZ M (wr .i64 (k - 1)))) = _
    rw [q40 b1, q40 b2, e2]
  have g1 : C0.che (M + 1) = 0 := chE_zero (n := M + 1) ⟨by omega, by omega⟩
  have g2 : C0.che M = 0 := chE_zero (n := M) ⟨by omega, by omega⟩
  unfold csAll
  rw [hn1, f1, f2, g1, g2, rest, show C0.n.iq (C0.ch M k) = true from iq0 _, show C0.n.iq (C0.ch M (wr .i64 (k - 1))) = true from iq0 _, show C0.n.eqN (chZ (M + 1) k) (C0.ch (M + 1) k) = true from eqN_self _]
  show cond (decide (0 ≤ k)) (cond (decide (k ≤ M)) (cond (!C0.n.eqN (C0.ch M (wr .i64 (M - k))) (C0.ch M k)) fls2 (some (.bool true))) (some (.bool true))) (some (.bool true)) = some (.bool true)
  by_cases h0 : 0 ≤ k
  · rw [decide_eq_true h0]
    by_cases h1 : k ≤ M
    · rw [decide_eq_true h1, wr64 (x := M - k) (by omega) (by omega)]
      have : C0.ch M (M - k) = C0.ch M k := by
        show chZ M (M - k) = chZ M k
        rw [chZ_eq (by omega), chZ_eq (by omega), if_pos (by omega), if_pos (by omega), show (M - k).toNat = M.toNat - k.toNat by omega, ch_symm (by omega)]
      rw [this, show C0.n.eqN (C0.ch M k) (C0.ch M k) = true from eqN_self _]; rfl
    · rw [decide_eq_false h1]; rfl
  · rw [decide_eq_false h0]; rfl
theorem chooses_true {a k : Int} (ha : 0 ≤ a ∧ a < 256) (hk : -9223372036854775808 ≤ k ∧ k < 9223372036854775808) : evalFn Tryd.prog (orcC C0) csL 200 8 Tryd.f8 [.int .u8 a, .int .i64 k] [] (fun v _ => some v) = some (.bool true) := by
  rw [chooses_eval, wr64 (x := a) (by omega) (by omega), Int.tmod_eq_emod_of_nonneg (by omega)]
  exact csAll_true (by omega) hk
theorem i64_range {a : Int} (w : (Lit.int .i64 a).wf = true) : -9223372036854775808 ≤ a ∧ a < 9223372036854775808 := by
  simp only [Lit.wf, IntKind.min, IntKind.max, IntKind.signed, IntKind.bits, Bool.and_eq_true] at w
  simp at w
  omega
end Go.Proofs.YthpdeiolhahobaaDoor
