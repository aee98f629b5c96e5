/- Texts merged: Rf2, Rf3T. -/
import Derived.Test.YtnbfnoomhlamnaaGreatRf1
/- Chapter 3: the reference: Right, Of, Next, Jump, Below answer as the program does. -/
namespace Go.Proofs.YtnbfnoomhlamnaaGreat
open Go Go.Eng
theorem rorc_ok {T : PTab} (hT : PTabOk Tryz.prog T) : OracleOk Tryz.prog (orc T plainL) := inl_ok (oracleOf_ok emptyTab_ok) ftab_ok hT plainL_ok mixed 20
theorem rright_pure (s : Int) : FnPure Tryz.prog 26 [.int .i64 s] (.bool (rightB s)) := by
  refine pure_at emptyTab_ok plainL_ok Tryz.func26 (by kernel_rfl) (?_ : evalAt emptyTab plainL 26 Tryz.f26 [.int .i64 s] = _) rfl rfl
  rw [show evalAt emptyTab plainL 26 Tryz.f26 [.int .i64 s] = bif decide (0 < s) then some (.bool (decide (s < 2147483647))) else some (.bool false) by kernel_rfl]
  unfold rightB
  by_cases h : 0 < s
  · rw [decide_eq_true h, decide_eq_true (show 1 ≤ s by omega), cond_true, Bool.true_and]
    by_cases h2 : s < 2147483647
    · rw [decide_eq_true h2, decide_eq_true (show s ≤ 2147483646 by omega)]
    · rw [decide_eq_false h2, decide_eq_false (show ¬ s ≤ 2147483646 by omega)]
  · rw [decide_eq_false h, decide_eq_false (show ¬ 1 ≤ s by omega)]; rfl
theorem rof_pure (n : Int) : FnPure Tryz.prog 27 [.int .i64 n] (.int .i64 (ofI n)) := by
  refine pure_at emptyTab_ok plainL_ok Tryz.func27 (by kernel_rfl) (?_ : evalAt emptyTab plainL 27 Tryz.f27 [.int .i64 n] = _) rfl rfl
  rw [show evalAt emptyTab plainL 27 Tryz.f27 [.int .i64 n] = bif decide (0 ≤ n) then some (.int .i64 (wr .i64 (n.tmod 2147483646 + 1))) else
    bif decide (wr .i64 (0 - n.tmod 2147483646) = 0) then some (.int .i64 1) else some (.int .i64 (wr .i64 (wr .i64 (2147483646 - wr .i64 (0 - n.tmod 2147483646)) + 1))) by kernel_rfl]
  have h2 := Int.tmod_lt_of_pos n (show (0 : Int) < 2147483646 by omega)
  unfold ofI
  by_cases h : 0 ≤ n
  · have h3 := Int.tmod_nonneg 2147483646 h
    rw [decide_eq_true h, cond_true, decide_eq_false (by omega), cond_false, Int.add_comm]
  · have h4 := Int.tmod_lt_of_pos (-n) (show (0 : Int) < 2147483646 by omega)
    have h5 := Int.tmod_nonneg 2147483646 (show 0 ≤ -n by omega)
    rw [Int.neg_tmod] at h4 h5
    rw [decide_eq_false h, cond_false, wr64 (x := 0 - n.tmod 2147483646) (by omega) (by omega)]
    by_cases h6 : n.tmod 2147483646 = 0
    · rw [h6]; rfl
    · rw [decide_eq_false (by omega), cond_false, decide_eq_true (by omega), cond_true, wr64 (x := 2147483646 - (0 - n.tmod 2147483646)) (by omega) (by omega), wr64 (x := n.tmod 2147483646 + 2147483646) (by omega) (by omega)]
      congr 3; omega
theorem tabPw_ok : PTabOk Tryz.prog (tabPw (rP 2147483648)) := by
  refine addTab_ok (gTm_ok _) (addTab_ok ?_ emptyTab_ok)
  intro args c v h hc
  unfold gPw at h
  split at h
  · cases h
    have hc' : okPw 2147483648 _ = true := hc
    simp only [okPw, decide_eq_true_eq] at hc'
    exact pw_pure hc'.1 (by omega)
  · cases h
theorem gR42_ok : ∀ args c v, gRight args = some (c, v) → c = true → FnPure Tryz.prog 26 args v := by
  intro args c v h _
  unfold gRight at h
  split at h
  · cases h; exact rright_pure _
  · cases h
theorem gO43_ok : ∀ args c v, gOf args = some (c, v) → c = true → FnPure Tryz.prog 27 args v := by
  intro args c v h _
  unfold gOf at h
  split at h
  · cases h; exact rof_pure _
  · cases h
def tabR1 (Q : RP) : PTab := addTab 26 gRight (addTab 27 gOf (tabPw Q))
theorem tabR1_ok : PTabOk Tryz.prog (tabR1 (rP 2147483648)) := addTab_ok gR42_ok (addTab_ok gO43_ok tabPw_ok)
theorem rnext_eval (Q : RP) (s : Int) : evalAt (tabR1 Q) plainL 18 Tryz.f18 [.int .i64 s] = bif !rightB s then some err3 else bif Q.okT s 48271 then some (.tuple [.int .i64 (Q.tm s 48271), .int .i64 (wr .i64 (Q.tm s 48271 - 1)), .int .i64 0]) else none := by kernel_rfl
theorem rjump_eval (Q : RP) (s k : Int) : evalAt (tabR1 Q) plainL 20 Tryz.f20 [.int .i64 s, .int .i64 k] = bif !rightB s then some err2 else bif Q.okP (wr .i64 (ofI k - 1)) then
    bif Q.okT s (Q.pw (wr .i64 (ofI k - 1))) then some (.tuple [.int .i64 (Q.tm s (Q.pw (wr .i64 (ofI k - 1)))), .int .i64 0]) else none else none := by kernel_rfl
theorem okTm_true {a b : Int} (h : 0 ≤ a ∧ a < 2147483647 ∧ 0 ≤ b ∧ b < 9223372036854775808) : okTm a b = true := decide_eq_true h
theorem tm_mulP {s : Int} (hs : rightB s = true) : tmI s 48271 = mulP s 48271 := by
  have := right_le hs
  unfold tmI mulP
  rw [wr64 (by omega) (by omega), Int.tmod_eq_emod_of_nonneg (by omega)]
theorem rnext_pure (s : Int) : FnPure Tryz.prog 18 [.int .i64 s] (.tuple [.int .i64 (nextS s), .int .i64 (nextV s), .int .i64 (errI (rightB s))]) := by
  refine pure_at tabR1_ok plainL_ok Tryz.func18 (by kernel_rfl) ?_ rfl rfl
  rw [rnext_eval, show (rP 2147483648).okT = okTm from rfl, show (rP 2147483648).tm = tmI from rfl]
  unfold nextS nextV errI
  cases hs : rightB s with
  | false => rfl
  | true =>
    have := right_le hs
    rw [okTm_true (by omega), tm_mulP hs]; rfl
theorem jump_pw {s k : Int} (hs : rightB s = true) : tmI s (pwI (wr .i64 (ofI k - 1))) = jumpI s k := by
  have h := right_le hs
  obtain ⟨n, rfl⟩ : ∃ n : Nat, s = n := ⟨s.toNat, by omega⟩
  rw [jumpI_nat (by omega) (by omega)]
  have e : wr .i64 (ofI k - 1) = k % 2147483646 := by
    have h2 := Int.tmod_lt_of_pos k (show (0 : Int) < 2147483646 by omega)
    unfold ofI
    by_cases h0 : 0 ≤ k
    · have h3 := Int.tmod_nonneg 2147483646 h0
      rw [decide_eq_false (by omega), cond_false, wr64 (x := 1 + k.tmod 2147483646) (by omega) (by omega), wr64 (by omega) (by omega), Int.tmod_eq_emod_of_nonneg h0]; omega
    · have h4 := Int.tmod_lt_of_pos (-k) (show (0 : Int) < 2147483646 by omega)
      have h5 := Int.tmod_nonneg 2147483646 (show 0 ≤ -k by omega)
      have h6 : (-k).tmod 2147483646 = (-k) % 2147483646 := Int.tmod_eq_emod_of_nonneg (by omega)
      rw [Int.neg_tmod] at h4 h5 h6
      by_cases h7 : k.tmod 2147483646 < 0
      · rw [decide_eq_true h7, cond_true, wr64 (x := k.tmod 2147483646 + 2147483646) (by omega) (by omega), wr64 (x := 1 + (k.tmod 2147483646 + 2147483646)) (by omega) (by omega), wr64 (by omega) (by omega)]; omega
      · rw [decide_eq_false h7, cond_false, wr64 (x := 1 + k.tmod 2147483646) (by omega) (by omega), wr64 (by omega) (by omega)]; omega
  rw [e]
  unfold tmI pwI J
  rw [Nat.one_mul]
  have := Nat.mul_mod n (48271 ^ (k % 2147483646).toNat) 2147483647
  have h2 := Nat.mod_lt (48271 ^ (k % 2147483646).toNat) (show 0 < 2147483647 by omega)
  have h3 : n % 2147483647 = n := Nat.mod_eq_of_lt (by omega)
  rw [h3] at this
  rw [this]
  simp only [Int.natCast_emod, Int.natCast_mul]
  rfl
theorem rjump_pure (s k : Int) : FnPure Tryz.prog 20 [.int .i64 s, .int .i64 k] (.tuple [.int .i64 (jumpI s k), .int .i64 (errI (rightB s))]) := by
  refine pure_at tabR1_ok plainL_ok Tryz.func20 (by kernel_rfl) ?_ rfl rfl
  rw [rjump_eval, show (rP 2147483648).okT = okTm from rfl, show (rP 2147483648).tm = tmI from rfl, show (rP 2147483648).pw = pwI from rfl, show (rP 2147483648).okP = okPw 2147483648 from rfl]
  cases hs : rightB s with
  | false => unfold jumpI errI; rw [hs]; rfl
  | true =>
    have h := right_le hs
    have ho := right_le (ofI_right k)
    have hp := pwI_range (wr .i64 (ofI k - 1))
    have e : okPw 2147483648 (wr .i64 (ofI k - 1)) = true := by
      unfold okPw; rw [decide_eq_true_eq, wr64 (by omega) (by omega)]; omega
    rw [e, okTm_true (by omega), jump_pw hs]
    rfl
end Go.Proofs.YtnbfnoomhlamnaaGreat

/- Chapter 3: the reference's Below: states. -/
namespace Go.Proofs.YtnbfnoomhlamnaaGreat
open Go Go.Eng
noncomputable def rbLp : Code := loopOf 5 Tryz.f22
def rbT : Tm := ⟨mkS [(0, .int .i64), (1, .int .i64), (7, .int .i64), (8, .int .i64)] 0 40, [], []⟩
def rbX : Tm := ⟨mkS [(0, .int .i64), (1, .int .i64), (7, .int .i64)] 0 40, [], []⟩
def tabR2 : PTab := addTab 18 gNext (addTab 26 gRight emptyTab)
theorem tabR2_ok : PTabOk Tryz.prog tabR2 := by
  refine addTab_ok ?_ (addTab_ok gR42_ok emptyTab_ok)
  intro args c v h _
  unfold gNext at h
  split at h
  · cases h; exact rnext_pure _
  · cases h
end Go.Proofs.YtnbfnoomhlamnaaGreat
