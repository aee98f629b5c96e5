/- Chapter 10: Accept, plainly; its contract. -/
import Derived.Test.YtojlmpcbplepcaaGreatRf
import Derived.Test.YtojlmpcbplepcaaGreatRf
namespace Go.Proofs.YtojlmpcbplepcaaGreat
open Go Go.Eng
def metI (s : CD) (j : Nat) : CD := (bif decide (0 < s.p.at j) then s.setP (wr .i64 (s.p.at j - 1)) j else s).setA 0 j
def acP : Nat → CD → List Int → Nat → Option (CD × List Int)
  | 0, s, ys, _ => some (s, ys)
  | r + 1, s, ys, j => bif ovI s.d ys then none else acP r (metI s j) (ys ++ [0]) ((j + 1) % 4)
structure AR where
  e : Int
  s : CD
  ys : List Int
  bc : List Int
def badR (e : Int) : AR := ⟨e, c0, [], []⟩
def acZ (x : Int) (ys bc : List Int) (s : CD) (j : Nat) : AR := bif decide (400 ≤ ys.length) then badR 5 else ⟨0, (metI s j).setH 0, ys ++ [x], bc⟩
def acY (r : Nat) (s : CD) (xs ac : List Int) (t : Nat) (x : Int) : AR := match acP r s xs t with
  | none => badR 104
  | some (s', ys) => bif !frI s'.d ys x then badR 104 else acZ x ys ac s' ((t + r) % 4)
def acI (s : CD) (xs ac : List Int) (y x : Int) : AR := bif !decide (keI s xs ac y x = 0) then badR (keI s xs ac y x) else bif decide (kdI s xs ac y x = 0) then badR 6 else
  bif decide (kdI s xs ac y x = 1) then acZ x xs (ac ++ [(xs.length : Int)]) s (tN s xs) else bif decide (kdI s xs ac y x = 3) then acY 1 s xs ac (tN s xs) x else bif decide (kdI s xs ac y x = 4) then acY 2 s xs ac (tN s xs) x else
    bif decide (kdI s xs ac y x = 5) then acY 3 s xs ac (tN s xs) x else badR 104
def arA (xs ac : List Int) (R : AR) : AN := some (ansP R.s R.e xs ac R.ys R.bc, [])
theorem acM_is (s : CD) (j : Nat) (X : CD → AN) : acM s j X = X (metI s j) := by
  unfold acM metI
  cases decide (0 < s.p.at j) <;> rfl
theorem d400 (ys : List Int) : decide (400 ≤ Int.ofNat ys.length) = decide (400 ≤ ys.length) := by
  have : Int.ofNat ys.length = (ys.length : Int) := rfl
  rw [this]
  by_cases hq : 400 ≤ ys.length
  · rw [decide_eq_true hq, decide_eq_true (by omega)]
  · rw [decide_eq_false hq, decide_eq_false (by omega)]
theorem acT_is (xs ac : List Int) (x : Int) (ys bc : List Int) (s : CD) (j : Nat) : acT xs ac x ys bc s j = arA xs ac (acZ x ys bc s j) := by
  unfold acT acZ
  rw [d400, acM_is]
  cases hq : decide (400 ≤ ys.length) with
  | true => rfl
  | false =>
    simp only [decide_eq_false_iff_not] at hq
    rw [decide_eq_true (show (ys ++ [x]).length * 2 ≤ 70368744177664 by simp; omega)]; rfl
theorem metI_d (s : CD) (j : Nat) : (metI s j).d = s.d := by
  unfold metI
  cases decide (0 < s.p.at j) <;> rfl
theorem acR_is (xs ac : List Int) (x : Int) (hx : byB x = true) : ∀ (r : Nat) (ys : List Int) (s : CD) (j : Nat), j < 4 → ys.length + r ≤ 100000 → allU ys = true → acR nC xs ac x r ys s j = arA xs ac (match acP r s ys j with
    | none => badR 104
    | some (s', zs) => bif !frI s'.d zs x then badR 104 else acZ x zs ac s' ((j + r) % 4)) := by
  intro r
  induction r with
  | zero =>
    intro ys s j hj hl hu
    unfold acR acF
    rw [show nC.J.OK ys = true from okL_iff.2 ⟨by omega, hu⟩, show nC.J.BY x = true from hx]
    show (bif !frI s.d ys x then badA 104 xs ac else acT xs ac x ys ac s j) = arA xs ac (bif !frI s.d ys x then badR 104 else acZ x ys ac s ((j + 0) % 4))
    rw [acT_is, show (j + 0) % 4 = j by omega]
    cases frI s.d ys x <;> rfl
  | succ r ih =>
    intro ys s j hj hl hu
    unfold acR
    rw [show nC.J.OK ys = true from okL_iff.2 ⟨by omega, hu⟩, decide_eq_true (show (ys ++ [(0 : Int)]).length * 2 ≤ 70368744177664 by simp; omega), acM_is, ih _ _ _ (by omega) (by simp; omega) (allU_snoc hu (by omega))]
    show (bif ovI s.d ys then badA 104 xs ac else arA xs ac _) = arA xs ac (match (bif ovI s.d ys then none else acP r (metI s j) (ys ++ [0]) ((j + 1) % 4)) with | none => _ | some (s', zs) => _)
    cases ovI s.d ys with
    | true => rfl
    | false =>
      simp only [cond_false]
      rw [show ((j + 1) % 4 + r) % 4 = (j + (r + 1)) % 4 by omega]
theorem rl_is {s : CD} {xs : List Int} {y k : Nat} (hd : 0 ≤ s.d ∧ s.d < 256) (h : okL xs = true) (hy : y < 4) (hr : rlI s xs y = (k : Int)) : y = (tN s xs + k) % 4 := by
  obtain ⟨ht, hk⟩ := tN_lt s xs h hd
  unfold rlI at hr
  rw [ht, wr_u8_id (n := (y : Int) + 4) (by omega), wr_u8_id (by omega), Int.tmod_eq_emod_of_nonneg (by omega)] at hr
  omega
theorem kd_turn {s : CD} {xs ac : List Int} {y : Nat} {x : Int} (hd : 0 ≤ s.d ∧ s.d < 256) (h : okL xs = true) (hy : y < 4) (he : keI s xs ac y x = 0) :
    (kdI s xs ac y x = 1 → y = tN s xs) ∧ (kdI s xs ac y x = 3 → y = (tN s xs + 1) % 4) ∧ (kdI s xs ac y x = 4 → y = (tN s xs + 2) % 4) ∧ (kdI s xs ac y x = 5 → y = (tN s xs + 3) % 4) := by
  obtain ⟨h1, h2, h3⟩ := (kd_range s xs ac y x).2.2 he
  obtain ⟨ht, hk⟩ := tN_lt s xs h hd
  have hrr : 0 ≤ rlI s xs y ∧ rlI s xs y < 4 := by
    unfold rlI
    rw [ht, wr_u8_id (n := (y : Int) + 4) (by omega), wr_u8_id (by omega), Int.tmod_eq_emod_of_nonneg (by omega)]
    omega
  have e0 : kdI s xs ac y x = bif ovI s.d xs then 6 else bif decide (rlI s xs y = 1) then 3 else bif decide (rlI s xs y = 2) then 4 else bif decide (rlI s xs y = 3) then 5 else kdO s xs x := by
    unfold kdI
    rw [h3, decide_eq_false (show ¬ (3 : Int) < y by omega), decide_eq_true h2]; rfl
  rw [e0]
  cases ovI s.d xs with
  | true => exact ⟨(fun h => by cases h), (fun h => by cases h), (fun h => by cases h), (fun h => by cases h)⟩
  | false =>
    rw [cond_false]
    by_cases r1 : rlI s xs y = 1
    · have := rl_is (k := 1) hd h hy r1
      rw [decide_eq_true r1]
      exact ⟨(fun h => by cases h), fun _ => this, (fun h => by cases h), (fun h => by cases h)⟩
    by_cases r2 : rlI s xs y = 2
    · have := rl_is (k := 2) hd h hy r2
      rw [decide_eq_false r1, decide_eq_true r2]
      exact ⟨(fun h => by cases h), (fun h => by cases h), fun _ => this, (fun h => by cases h)⟩
    by_cases r3 : rlI s xs y = 3
    · have := rl_is (k := 3) hd h hy r3
      rw [decide_eq_false r1, decide_eq_false r2, decide_eq_true r3]
      exact ⟨(fun h => by cases h), (fun h => by cases h), (fun h => by cases h), fun _ => this⟩
    have := rl_is (k := 0) hd h hy (by omega)
    rw [decide_eq_false r1, decide_eq_false r2, decide_eq_false r3]
    simp only [cond_false]
    have ko : kdO s xs x = 0 ∨ kdO s xs x = 1 ∨ kdO s xs x = 2 ∨ kdO s xs x = 7 := by
      unfold kdO
      cases lgI s xs x <;> cases lwI xs x <;> cases ((decide (x = 1) || decide (x = 2)) && !frI s.d xs x) <;> simp
    exact ⟨fun _ => by omega, fun h => by omega, fun h => by omega, fun h => by omega⟩
theorem ac_all {s : CD} {xs ac : List Int} {y x : Int} (h : okL xs = true) (hc : lenOk ac = true) (hd : dkB s = true) (hx : byB x = true) (hy : 0 ≤ y) (hl : xs.length ≤ 99990) : ∃ t k e, rfV nC t k e 32 Tryz.f32 xs ac s y x = arA xs ac (acI s xs ac y x) := by
  obtain ⟨hk, he, hr⟩ := kd_range s xs ac y x
  obtain ⟨ht, hk4⟩ := tN_lt s xs h (of_decide_eq_true hd)
  have cd : ∀ (z k e : Int), z = y → kdI s xs ac y x = k → keI s xs ac y x = e → rfCd nC xs ac s z x k e = true := fun z k e hz h1 h2 => by
    subst hz
    unfold rfCd
    rw [show nC.J.OK xs = true from h, show nC.DK s = true from hd, show nC.J.BY x = true from hx, show nC.KV s xs ac z x = kdI s xs ac z x from rfl, show nC.KE s xs ac z x = keI s xs ac z x from rfl, decide_eq_true ⟨h1, h2⟩]; rfl
  have hw : ∀ X, acW nC xs ac s (tN s xs) X = X := fun X => by
    unfold acW rfW
    rw [show nC.CK xs = true from decide_eq_true (by omega), show nC.CK ac = true from hc, show nC.J.OK xs = true from h, show nC.TR s xs = trnI s xs from rfl, decide_eq_true ht]; rfl
  have hR : ∀ r, r ≤ 3 → acR nC xs ac x r xs s (tN s xs) = arA xs ac (acY r s xs ac (tN s xs) x) := fun r hr3 => acR_is xs ac x hx r xs s (tN s xs) hk4 (by omega) (okL_iff.1 h).2
  rcases he with he | ⟨h0, he⟩
  · obtain ⟨n, rfl⟩ : ∃ n : Nat, y = n := ⟨y.toNat, by omega⟩
    have hn : n < 4 := by have := (hr he).1; omega
    obtain ⟨t1, t3, t4, t5⟩ := kd_turn (ac := ac) (x := x) (of_decide_eq_true hd) h hn he
    have hX : ∀ k, kdI s xs ac n x = k → acI s xs ac n x = bif decide (k = 0) then badR 6 else bif decide (k = 1) then acZ x xs (ac ++ [(xs.length : Int)]) s (tN s xs) else bif decide (k = 3) then acY 1 s xs ac (tN s xs) x else bif decide (k = 4) then acY 2 s xs ac (tN s xs) x else bif decide (k = 5) then acY 3 s xs ac (tN s xs) x else badR 104 := fun k h1 => by
      unfold acI
      rw [he, h1]; rfl
    rcases hk with hk | hk | hk | hk | hk | hk | hk | hk
    · exact ⟨0, 0, 0, by rw [ac_k0, cd _ 0 0 rfl hk he, hX 0 hk]; rfl⟩
    · refine ⟨tN s xs, 1, 0, ?_⟩
      have := t1 hk
      rw [hX 1 hk, show (n : Int) = (tN s xs : Int) by omega, ac_k1 _ _ _ _ _ _ hk4, cd _ 1 0 (by omega) hk he, cond_true, hw]
      unfold acK1
      rw [show Int.ofNat xs.length = (xs.length : Int) from rfl, acT_is]
      have hcl : ac.length ≤ 200000 := of_decide_eq_true hc
      rw [decide_eq_true (show (ac ++ [(xs.length : Int)]).length * 9 ≤ 70368744177664 by simp; omega)]; rfl
    · exact ⟨0, 2, 0, by rw [ac_k2, cd _ 2 0 rfl hk he, hX 2 hk]; rfl⟩
    · refine ⟨tN s xs, 3, 0, ?_⟩
      have := t3 hk
      rw [hX 3 hk, show (n : Int) = (((tN s xs + 1) % 4 : Nat) : Int) by omega, ac_k3 _ _ _ _ _ _ hk4, cd _ 3 0 (by omega) hk he, cond_true, hw, hR 1 (by omega)]; rfl
    · refine ⟨tN s xs, 4, 0, ?_⟩
      have := t4 hk
      rw [hX 4 hk, show (n : Int) = (((tN s xs + 2) % 4 : Nat) : Int) by omega, ac_k4 _ _ _ _ _ _ hk4, cd _ 4 0 (by omega) hk he, cond_true, hw, hR 2 (by omega)]; rfl
    · refine ⟨tN s xs, 5, 0, ?_⟩
      have := t5 hk
      rw [hX 5 hk, show (n : Int) = (((tN s xs + 3) % 4 : Nat) : Int) by omega, ac_k5 _ _ _ _ _ _ hk4, cd _ 5 0 (by omega) hk he, cond_true, hw, hR 3 (by omega)]; rfl
    · exact ⟨0, 6, 0, by rw [ac_k6, cd _ 6 0 rfl hk he, hX 6 hk]; rfl⟩
    · exact ⟨0, 7, 0, by rw [ac_k7, cd _ 7 0 rfl hk he, hX 7 hk]; rfl⟩
  · have hX : ∀ e, keI s xs ac y x = e → e ≠ 0 → acI s xs ac y x = badR e := fun e h1 h2 => by
      unfold acI
      rw [h1, decide_eq_false h2]; rfl
    rcases he with he | he | he
    · exact ⟨0, 0, 100, by rw [ac_e100, cd _ 0 100 rfl h0 he, hX 100 he (by omega)]; rfl⟩
    · exact ⟨0, 0, 2, by rw [ac_e2, cd _ 0 2 rfl h0 he, hX 2 he (by omega)]; rfl⟩
    · exact ⟨0, 0, 80, by rw [ac_e80, cd _ 0 80 rfl h0 he, hX 80 he (by omega)]; rfl⟩
theorem accept12_fn (n1 n2 : Bool) {s : CD} {xs ac : List Int} {y x : Int} (h : okL xs = true) (hc : lenOk ac = true) (hd : dkB s = true) (hx : byB x = true) (hy : 0 ≤ y) (hl : xs.length ≤ 99990) :
    FnOK Tryz.prog 32 [.agg (s.vs (.gs 0) (.gs 1)), .int .u8 y, .int .u8 x] (crsH n1 n2 xs ac) (.tuple [.agg ((acI s xs ac y x).s.vs (.gs 2) (.gs 3)), .int .i64 (acI s xs ac y x).e]) (crsH n1 n2 xs ac ++ crsNb (acI s xs ac y x).ys (acI s xs ac y x).bc) := by
  obtain ⟨t, k, e, key⟩ := ac_all h hc hd hx hy hl
  exact fn_crs (fn_ans (T := crsA false false [.int .i64]) (orcE10_ok (dTurnL_ok t) (dKindL_ok k e) tabS_ok plainL_ok) mixed Tryz.func32 noLoops_ok (by kernel_rfl) key codesNil rfl)
end Go.Proofs.YtojlmpcbplepcaaGreat
