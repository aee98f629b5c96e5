/- Chapter 3: the reference: products modulo the prime, by adding. -/
import Derived.Test.YtnbfnoomhlamnaaGreatNgW
namespace Go.Proofs.YtnbfnoomhlamnaaGreat
open Go Go.Eng
noncomputable def tmLp : Code := loopOf 2 Tryz.f37
def tmT : Tm := ⟨mkS [(0, .int .i64), (1, .int .i64), (5, .int .i64)] 0 22, [], []⟩
def tmX : Tm := ⟨mkS [(5, .int .i64)] 0 22, [], []⟩
abbrev MP : Int := 2147483647
theorem tm_round (rd : Option Nat) (a b r : Int) : roundT Tryz.prog (orc emptyTab plainL) noLoops 100 0 rd 37 tmLp tmT tmX [.i a, .i b, .i r] =
    bif decide (0 < b) then bif decide (b.tmod 2 = 1) then some (.normal, [.i ((wr .i64 (a + a)).tmod 2147483647), .i (wr .i64 (b.tdiv 2)), .i ((wr .i64 (r + a)).tmod 2147483647)], [])
      else some (.normal, [.i ((wr .i64 (a + a)).tmod 2147483647), .i (wr .i64 (b.tdiv 2)), .i r], []) else some (.exit 0, [.i r], []) := by kernel_rfl
theorem tm_double {a b r : Int} (hb : b % 2 = 0) : (r + (a + a) % 2147483647 * (b / 2)) % 2147483647 = (r + a * b) % 2147483647 := by
  have e : a * b = (a + a) * (b / 2) := by
    have h : b = 2 * (b / 2) := by omega
    conv => lhs; rw [h]
    rw [← Int.mul_assoc, Int.mul_comm a 2, show (2 : Int) * a = a + a by omega]
  rw [e, Int.add_emod, Int.mul_emod, Int.emod_emod_of_dvd _ (Int.dvd_refl _), ← Int.mul_emod, ← Int.add_emod]
theorem tm_odd {a b r : Int} (hb : b % 2 = 1) : ((r + a) % 2147483647 + (a + a) % 2147483647 * (b / 2)) % 2147483647 = (r + a * b) % 2147483647 := by
  have h2 : (b - 1) % 2 = 0 := by omega
  have h3 : (b - 1) / 2 = b / 2 := by omega
  have := tm_double (a := a) (b := b - 1) (r := (r + a) % 2147483647) h2
  rw [h3] at this
  rw [this, Int.emod_add_emod]
  congr 1
  rw [Int.mul_sub, Int.mul_one]; omega
theorem tm_loop (rd : Option Nat) : ∀ x : Int × Int × Int, (0 ≤ x.1 ∧ x.1 < 2147483647 ∧ 0 ≤ x.2.1 ∧ x.2.1 < 9223372036854775808 ∧ 0 ≤ x.2.2 ∧ x.2.2 < 2147483647) →
    SimC Tryz.prog 0 rd (.loop tmLp) (tmT.at [.i x.1, .i x.2.1, .i x.2.2]) (.exit 0) (tmX.at [.i ((x.2.2 + x.1 * x.2.1) % 2147483647)]) := by
  refine loop_of_rounds (C := orc emptyTab plainL) (L := noLoops) (N := 100) (me := 37) (T := tmT) (T' := tmX) (inl_ok (oracleOf_ok emptyTab_ok) ftab_ok emptyTab_ok plainL_ok mixed 20) mixed (noLoops_ok) (by kernel_rfl) (by kernel_rfl) (X := Int × Int × Int)
    (fun x => [.i x.1, .i x.2.1, .i x.2.2]) (fun x => 0 ≤ x.1 ∧ x.1 < 2147483647 ∧ 0 ≤ x.2.1 ∧ x.2.1 < 9223372036854775808 ∧ 0 ≤ x.2.2 ∧ x.2.2 < 2147483647) (fun x => x.2.1.toNat) (fun x => (.exit 0, [.i ((x.2.2 + x.1 * x.2.1) % 2147483647)])) ?_
  rintro ⟨a, b, r⟩ ⟨ha, ha', hb, hb', hr, hr'⟩
  dsimp only at ha ha' hb hb' hr hr' ⊢
  have h := tm_round rd a b r
  have w1 : (wr .i64 (a + a)).tmod 2147483647 = (a + a) % 2147483647 := by rw [wr64 (by omega) (by omega), Int.tmod_eq_emod_of_nonneg (by omega)]
  have w2 : wr .i64 (b.tdiv 2) = b / 2 := by rw [Int.tdiv_eq_ediv_of_nonneg hb, wr64 (by omega) (by omega)]
  have w3 : (wr .i64 (r + a)).tmod 2147483647 = (r + a) % 2147483647 := by rw [wr64 (by omega) (by omega), Int.tmod_eq_emod_of_nonneg (by omega)]
  rw [w1, w2, w3] at h
  by_cases h0 : 0 < b
  · rw [decide_eq_true h0, cond_true] at h
    by_cases h1 : b.tmod 2 = 1
    · rw [decide_eq_true h1, cond_true] at h
      rw [Int.tmod_eq_emod_of_nonneg hb] at h1
      refine ⟨_, _, _, h, codesN, .inl ⟨rfl, ((a + a) % 2147483647, b / 2, (r + a) % 2147483647), rfl, by dsimp only; omega, by dsimp only; omega, ?_⟩⟩
      dsimp only
      rw [tm_odd h1]
    · rw [decide_eq_false h1, cond_false] at h
      rw [Int.tmod_eq_emod_of_nonneg hb] at h1
      refine ⟨_, _, _, h, codesN, .inl ⟨rfl, ((a + a) % 2147483647, b / 2, r), rfl, by dsimp only; omega, by dsimp only; omega, ?_⟩⟩
      dsimp only
      rw [tm_double (by omega)]
  · rw [decide_eq_false h0, cond_false] at h
    refine ⟨_, _, _, h, codesN, .inr ⟨by simp, ?_⟩⟩
    have : b = 0 := by omega
    subst this
    rw [Int.mul_zero, Int.add_zero, Int.emod_eq_of_lt hr hr']
def tmFin : List PV → Fin
  | [.i a, .i b, .i r] => .br (decide (0 ≤ a ∧ a < 2147483647 ∧ 0 ≤ b ∧ b < 9223372036854775808 ∧ 0 ≤ r ∧ r < 2147483647)) (.leaf (.exit 0) (tmX.at [.i ((r + a * b) % 2147483647)])) .no
  | _ => .no
noncomputable def tmSum : LoopSum := lsumF 0 tmT tmLp tmFin
theorem tmSum_ok : LoopOk Tryz.prog tmSum := by
  refine lsumF_ok (by kernel_rfl) fun rd ps e s h => ?_
  unfold tmFin at h
  split at h
  · rename_i a b r
    simp only [Fin.pick] at h
    cases hi : decide (0 ≤ a ∧ a < 2147483647 ∧ 0 ≤ b ∧ b < 9223372036854775808 ∧ 0 ≤ r ∧ r < 2147483647) with
    | false => rw [hi] at h; cases h
    | true =>
      rw [hi, cond_true] at h
      cases h
      exact tm_loop rd (a, b, r) (of_decide_eq_true hi)
  · cases h
noncomputable def tmL : Loops := sums (fun n => match n with | 2 => some tmSum | _ => none)
theorem tmL_ok : loopsOk Tryz.prog tmL := by
  intro n g hg
  simp only [tmL, sums] at hg
  split at hg
  · cases hg; exact tmSum_ok
  · cases hg
def tmI (a b : Int) : Int := (a * b) % 2147483647
theorem tm_eval (a b : Int) : evalFn Tryz.prog (orc emptyTab plainL) tmL 100 37 Tryz.f37 [.int .i64 a, .int .i64 b] [] (fun v _ => some v) =
    bif codesB [(tmLp, tmLp)] then bif decide (0 ≤ a ∧ a < 2147483647 ∧ 0 ≤ b ∧ b < 9223372036854775808 ∧ (0 : Int) ≤ 0 ∧ (0 : Int) < 2147483647) then some (.int .i64 ((0 + a * b) % 2147483647)) else none else none := by kernel_rfl
theorem tm_pure {a b : Int} (ha : 0 ≤ a) (ha' : a < 2147483647) (hb : 0 ≤ b) (hb' : b < 9223372036854775808) : FnPure Tryz.prog 37 [.int .i64 a, .int .i64 b] (.int .i64 (tmI a b)) := by
  refine fnPure_of_eval (C := orc emptyTab plainL) (N := 100) (inl_ok (oracleOf_ok emptyTab_ok) ftab_ok emptyTab_ok plainL_ok mixed 20) mixed Tryz.func37 (by kernel_rfl) tmL_ok ?_ rfl rfl
  have hc : codesB [(tmLp, tmLp)] = true := by
    rw [codesB_iff]; intro x hx; simp at hx; rw [hx]
  rw [tm_eval, hc, cond_true, decide_eq_true (by omega), cond_true, Int.zero_add]
  rfl
/-- Products and powers, as names alone. -/
structure RP where
  tm : Int → Int → Int
  okT : Int → Int → Bool
  pw : Int → Int
  okP : Int → Bool
def okTm (a b : Int) : Bool := decide (0 ≤ a ∧ a < 2147483647 ∧ 0 ≤ b ∧ b < 9223372036854775808)
def pwI (k : Int) : Int := ((J 1 k.toNat : Nat) : Int)
def okPw (n : Nat) (k : Int) : Bool := decide (0 ≤ k ∧ k < n)
def rP (n : Nat) : RP := ⟨tmI, okTm, pwI, okPw n⟩
def gTm (Q : RP) : List V → Option (Bool × V)
  | [.int .i64 a, .int .i64 b] => some (Q.okT a b, .int .i64 (Q.tm a b))
  | _ => none
def gPw (Q : RP) : List V → Option (Bool × V)
  | [.int .i64 k] => some (Q.okP k, .int .i64 (Q.pw k))
  | _ => none
def tabPw (Q : RP) : PTab := addTab 37 (gTm Q) (addTab 39 (gPw Q) emptyTab)
theorem gTm_ok (n : Nat) : ∀ args c v, gTm (rP n) args = some (c, v) → c = true → FnPure Tryz.prog 37 args v := by
  intro args c v h hc
  unfold gTm at h
  split at h
  · cases h
    have hc' : okTm _ _ = true := hc
    simp only [okTm, decide_eq_true_eq] at hc'
    exact tm_pure hc'.1 hc'.2.1 hc'.2.2.1 hc'.2.2.2
  · cases h
/-! ### powers -/
theorem pw_eval (Q : RP) (k : Int) : evalFn Tryz.prog (oracleOf (tabPw Q)) noLoops 100 39 Tryz.f39 [.int .i64 k] [] (fun v _ => some v) =
    bif decide (k = 0) then some (.int .i64 1) else bif Q.okP (wr .i64 (k.tdiv 2)) then
      bif Q.okT (Q.pw (wr .i64 (k.tdiv 2))) (Q.pw (wr .i64 (k.tdiv 2))) then
        bif decide (k.tmod 2 = 1) then bif Q.okT (Q.tm (Q.pw (wr .i64 (k.tdiv 2))) (Q.pw (wr .i64 (k.tdiv 2)))) 48271 then
          some (.int .i64 (Q.tm (Q.tm (Q.pw (wr .i64 (k.tdiv 2))) (Q.pw (wr .i64 (k.tdiv 2)))) 48271)) else none
        else some (.int .i64 (Q.tm (Q.pw (wr .i64 (k.tdiv 2))) (Q.pw (wr .i64 (k.tdiv 2))))) else none else none := by kernel_rfl
theorem J1_mul (a b : Nat) : J 1 a * J 1 b % 2147483647 = J 1 (a + b) := by
  unfold J; rw [Nat.one_mul, Nat.one_mul, Nat.one_mul, ← Nat.mul_mod, Nat.pow_add]
theorem pwI_range (k : Int) : 0 ≤ pwI k ∧ pwI k < 2147483647 := by
  have := J_lt 1 k.toNat
  unfold pwI; omega
theorem tmI_range (a b : Int) : 0 ≤ tmI a b ∧ tmI a b < 2147483647 := by
  unfold tmI; omega
theorem pw_ok : ∀ (n : Nat), n ≤ 2147483648 → ∀ k : Int, 0 ≤ k → k < n → FnPure Tryz.prog 39 [.int .i64 k] (.int .i64 (pwI k))
  | 0, _, k, h, h' => by omega
  | n + 1, hn, k, h, h' => by
    have ih := pw_ok n (by omega)
    have hT : PTabOk Tryz.prog (tabPw (rP n)) := by
      refine addTab_ok (gTm_ok n) (addTab_ok ?_ emptyTab_ok)
      intro args c v h hc
      unfold gPw at h
      split at h
      · cases h
        have hc' : okPw n _ = true := hc
        simp only [okPw, decide_eq_true_eq] at hc'
        exact ih _ hc'.1 hc'.2
      · cases h
    refine fnPure_of_eval (C := oracleOf (tabPw (rP n))) (N := 100) (oracleOf_ok hT) mixed Tryz.func39 (by kernel_rfl) noLoops_ok ?_ rfl rfl
    rw [pw_eval, show (rP n).okT = okTm from rfl, show (rP n).tm = tmI from rfl, show (rP n).pw = pwI from rfl, show (rP n).okP = okPw n from rfl]
    by_cases h0 : k = 0
    · subst h0
      rfl
    · rw [decide_eq_false h0, cond_false, Int.tdiv_eq_ediv_of_nonneg h, wr64 (by omega) (by omega), Int.tmod_eq_emod_of_nonneg h]
      have e1 : okPw n (k / 2) = true := by
        unfold okPw; rw [decide_eq_true_eq]; omega
      have r := pwI_range (k / 2)
      have e2 : okTm (pwI (k / 2)) (pwI (k / 2)) = true := by
        unfold okTm; rw [decide_eq_true_eq]; omega
      have e3 : tmI (pwI (k / 2)) (pwI (k / 2)) = ((J 1 ((k / 2).toNat + (k / 2).toNat) : Nat) : Int) := by
        unfold tmI pwI
        rw [← J1_mul]
        omega
      have r3 := J_lt 1 ((k / 2).toNat + (k / 2).toNat)
      have e4 : okTm ((J 1 ((k / 2).toNat + (k / 2).toNat) : Nat) : Int) 48271 = true := by
        unfold okTm; rw [decide_eq_true_eq]; omega
      rw [e1, e2, e3, e4, cond_true, cond_true]
      by_cases h1 : k % 2 = 1
      · rw [decide_eq_true h1, cond_true, cond_true]
        have e5 : tmI ((J 1 ((k / 2).toNat + (k / 2).toNat) : Nat) : Int) 48271 = pwI k := by
          unfold tmI pwI
          have e6 : k.toNat = ((k / 2).toNat + (k / 2).toNat) + 1 := by omega
          rw [e6, ← J1_mul _ 1, show J 1 1 = 48271 from rfl]
          omega
        rw [e5]
      · rw [decide_eq_false h1, cond_false]
        have e6 : (k / 2).toNat + (k / 2).toNat = k.toNat := by omega
        rw [e6]
        rfl
theorem pw_pure {k : Int} (h : 0 ≤ k) (h' : k < 2147483648) : FnPure Tryz.prog 39 [.int .i64 k] (.int .i64 (pwI k)) := pw_ok 2147483648 (Nat.le_refl _) k h (by omega)
end Go.Proofs.YtnbfnoomhlamnaaGreat
