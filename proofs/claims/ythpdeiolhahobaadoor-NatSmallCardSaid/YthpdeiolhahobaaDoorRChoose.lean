/- Chapter 2, the reference: Choose: the same as nat's own. -/
import Derived.Test.YthpdeiolhahobaaDoorRMul
import Derived.Test.YthpdeiolhahobaaDoorPas
namespace Go.Proofs.YthpdeiolhahobaaDoor
open Go Go.Eng
theorem ch_abs : ∀ (n k : Nat), (k + 1) * ch (n + 1) (k + 1) = (n + 1) * ch n k
  | 0, 0 => rfl
  | 0, k + 1 => by
    rw [ch_big (show 0 + 1 < k + 1 + 1 by omega), ch_big (show 0 < k + 1 by omega)]; simp
  | n + 1, 0 => by
    have h := ch_abs n 0
    have e : ch (n + 1 + 1) (0 + 1) = ch (n + 1) 0 + ch (n + 1) (0 + 1) := rfl
    rw [ch_zero] at *
    omega
  | n + 1, k + 1 => by
    have h1 := ch_abs n k
    have h2 := ch_abs n (k + 1)
    have e1 : ch (n + 1 + 1) (k + 1 + 1) = ch (n + 1) (k + 1) + ch (n + 1) (k + 1 + 1) := rfl
    have e2 : ch (n + 1) (k + 1) = ch n k + ch n (k + 1) := rfl
    have e3 : (n + 1) * ch (n + 1) (k + 1) = (n + 1) * ch n k + (n + 1) * ch n (k + 1) := by rw [e2, Nat.mul_add]
    have e4 : (k + 1 + 1) * ch (n + 1) (k + 1) = (k + 1) * ch (n + 1) (k + 1) + ch (n + 1) (k + 1) := by rw [Nat.add_mul, Nat.one_mul]
    have e5 : (n + 1 + 1) * ch (n + 1) (k + 1) = (n + 1) * ch (n + 1) (k + 1) + ch (n + 1) (k + 1) := by rw [Nat.add_mul, Nat.one_mul]
    rw [e1, Nat.mul_add, e4, e5]
    omega
noncomputable def rcLp : Code := loopOf 9 Tryd.f32
def rcT : Tm := ⟨mkS [(0, .int .i64), (1, .int .i64), (4, .ptr 0 0), (6, .gs 1), (7, .int .i64)] 0 46, [.own 27 z4, .grow true 3 1 i64s], []⟩
def rcX : Tm := ⟨mkS [(4, .ptr 0 0), (6, .gs 1)] 0 46, [.own 27 z4, .grow true 3 1 i64s], []⟩
def rcA (n k i : Int) : Int := wr .i64 (wr .i64 (n - k) + i)
theorem rc_round (N : NE) (Z E : Int → Int) (ok : List Int → Bool) (vl : List Int → Int) (rd : Option Nat) (n k i : Int) (xs : List Int) : roundT Tryd.prog (orcQ (hTabZ N Z E ok vl)) noLoops 200 0 rd 32 rcLp rcT rcX [.i n, .i k, .i i, .l xs] =
    bif decide (i ≤ k) then bif N.n.okI (rcA n k i) then bif N.n.ok xs && N.n.ok (N.n.D (rcA n k i)) then bif N.n.okI i then bif N.okQ (N.n.prod xs (N.n.D (rcA n k i))) (N.n.D i) then
      some (.normal, [.i n, .i k, .i (wr .i64 (i + 1)), .l (N.quo (N.n.prod xs (N.n.D (rcA n k i))) (N.n.D i))], []) else none else none else none else none else some (.exit 0, [.l xs], []) := by kernel_rfl
def rcT0 : Tm := ⟨mkS [(0, .int .i64), (1, .int .i64), (4, .ptr 0 0), (6, .gs 1), (7, .int .i64)] 0 46, [.own 27 z4, .grow true 3 1 (.vs [.int .i64])], []⟩
def rcX0 : Tm := ⟨mkS [(4, .ptr 0 0), (6, .gs 1)] 0 46, [.own 27 z4, .grow true 3 1 (.vs [.int .i64])], []⟩
theorem rc_first (N : NE) (Z E : Int → Int) (ok : List Int → Bool) (vl : List Int → Int) (rd : Option Nat) (n k i x : Int) : roundG Tryd.prog (orcQ (hTabZ N Z E ok vl)) noLoops 200 0 rd 32 rcLp rcT0 rcT rcX0 [.i n, .i k, .i i, .i x] =
    bif decide (i ≤ k) then bif N.n.okI (rcA n k i) then bif N.n.ok [x] && N.n.ok (N.n.D (rcA n k i)) then bif N.n.okI i then bif N.okQ (N.n.prod [x] (N.n.D (rcA n k i))) (N.n.D i) then
      some (.normal, [.i n, .i k, .i (wr .i64 (i + 1)), .l (N.quo (N.n.prod [x] (N.n.D (rcA n k i))) (N.n.D i))], []) else none else none else none else none else some (.exit 0, [.i x], []) := by kernel_rfl
structure RcStep (a K j : Nat) : Prop where
  hA : rcA ((a + K : Nat) : Int) (K : Int) ((j + 1 : Nat) : Int) = ((a + j + 1 : Nat) : Int)
  k1 : E0.n.okI ((a + j + 1 : Nat) : Int) = true
  k2 : E0.n.ok (D (ch (a + j) j)) = true
  k3 : E0.n.D ((a + j + 1 : Nat) : Int) = D (a + j + 1)
  k4 : E0.n.ok (D (a + j + 1)) = true
  k5 : E0.n.okI ((j + 1 : Nat) : Int) = true
  k6 : E0.n.D ((j + 1 : Nat) : Int) = D (j + 1)
  k7 : E0.n.prod (D (ch (a + j) j)) (D (a + j + 1)) = D (ch (a + j) j * (a + j + 1))
  k8 : E0.okQ (D (ch (a + j) j * (a + j + 1))) (D (j + 1)) = true
  k9 : E0.quo (D (ch (a + j) j * (a + j + 1))) (D (j + 1)) = D (ch (a + (j + 1)) (j + 1))
  w : wr .i64 (((j + 1 : Nat) : Int) + 1) = ((j + 1 + 1 : Nat) : Int)
theorem rc_step {a K j : Nat} (hK : a + K ≤ 128) (hlt : j < K) : RcStep a K j := by
  have hA : rcA ((a + K : Nat) : Int) (K : Int) ((j + 1 : Nat) : Int) = ((a + j + 1 : Nat) : Int) := by
    unfold rcA
    rw [wr64 (x := ((a + K : Nat) : Int) - (K : Int)) (by omega) (by omega), wr64 (by omega) (by omega)]; omega
  have hc := ch_lt128 (n := a + j) (k := j) (by omega)
  have hab : (j + 1) * ch (a + (j + 1)) (j + 1) = (a + j + 1) * ch (a + j) j := ch_abs (a + j) j
  have hlp : (D (ch (a + j) j * (a + j + 1))).length ≤ 50 := D_len_lt (Nat.lt_of_le_of_lt (Nat.mul_le_mul (Nat.le_of_lt hc) (show a + j + 1 ≤ 1000 by omega)) (by decide))
  have hlj : (D (j + 1)).length ≤ 39 := D_len_lt (Nat.lt_trans (show j + 1 < 340282366920938463463374607431768211456 by omega) (by decide))
  have hq : ch (a + j) j * (a + j + 1) / (j + 1) = ch (a + (j + 1)) (j + 1) := by
    rw [Nat.mul_comm, ← hab, Nat.mul_div_cancel_left _ (by omega)]
  refine ⟨hA, ?_, okD_lt hc, rfl, okD_lt (by omega), ?_, rfl, by rw [show E0.n.prod = prodD from rfl, prodD_D], ?_, by rw [quo_D, hq], by rw [wr64 (by omega) (by omega)]; omega⟩
  · rw [show E0.n.okI = okID from rfl]; unfold okID; rw [decide_eq_true (by omega)]
  · rw [show E0.n.okI = okID from rfl]; unfold okID; rw [decide_eq_true (by omega)]
  · rw [show E0.okQ = dvC from rfl]
    unfold dvC
    rw [isD_D, isD_D, val_D, decide_eq_true ⟨by omega, by omega, by omega⟩]; rfl
theorem rc_loop (rd : Option Nat) (a K : Nat) (hK : a + K ≤ 128) : ∀ j : Nat, j ≤ K →
    ∃ m, SimL Tryd.prog 0 rd rcLp m (rcT.at [.i ((a + K : Nat) : Int), .i (K : Int), .i ((j + 1 : Nat) : Int), .l (D (ch (a + j) j))]) (.exit 0) (rcX.at [.l (D (ch (a + K) K))]) := by
  refine loop_of_rounds_n (C := orcQ (hTabZ E0 ptZ ptE okP val)) (L := noLoops) (N := 200) (me := 32) (T := rcT) (T' := rcX) (orcQ_ok hTabZ_ok) mixed noLoops_ok (by kernel_rfl) (by kernel_rfl) (X := Nat)
    (fun j => [.i ((a + K : Nat) : Int), .i (K : Int), .i ((j + 1 : Nat) : Int), .l (D (ch (a + j) j))]) (fun j => j ≤ K) (fun j => K - j) (fun _ => (.exit 0, [.l (D (ch (a + K) K))])) ?_
  intro j hj
  have h := rc_round E0 ptZ ptE okP val rd ((a + K : Nat) : Int) (K : Int) ((j + 1 : Nat) : Int) (D (ch (a + j) j))
  rcases Nat.lt_or_ge j K with hlt | hge
  · obtain ⟨hA, k1, k2, k3, k4, k5, k6, k7, k8, k9, w⟩ := rc_step hK hlt
    rw [hA, k1, k2, k3, k4, k5, k6, k7, k8, k9, w, decide_eq_true (show ((j + 1 : Nat) : Int) ≤ (K : Int) by omega)] at h
    exact ⟨_, _, _, h, codes0, .inl ⟨rfl, j + 1, rfl, by omega, by omega, rfl⟩⟩
  · obtain rfl : j = K := by omega
    rw [decide_eq_false (show ¬ ((j + 1 : Nat) : Int) ≤ (j : Int) by omega), cond_false] at h
    exact ⟨_, _, _, h, codes0, .inr ⟨by simp, rfl⟩⟩
def rcD (n k : Int) : List Int := D (ch n.toNat k.toNat)
def rcC (n k i x : Int) : Bool := decide (x = 1 ∧ i = 1 ∧ 0 ≤ k ∧ k ≤ n ∧ n ≤ 128)
noncomputable def rcTree : List PV → Fin
  | [.i n, .i k, .i i, .i x] => .br (rcC n k i x) (.br (decide (k = 0)) (.leaf (.exit 0) (rcX0.at [.i 1])) (.leaf (.exit 0) (rcX.at [.l (rcD n k)]))) .no
  | _ => .no
noncomputable def rcL : Loops := sums (fun n => match n with | 9 => some (lsumF 0 rcT0 rcLp rcTree) | _ => none)
theorem rcL_ok : loopsOk Tryd.prog rcL := by
  intro n g hg
  simp only [rcL, sums] at hg
  split at hg
  · cases hg
    refine lsumF_ok (by kernel_rfl) (fun rd ps e1 st1 hq => ?_)
    unfold rcTree at hq
    split at hq
    · rename_i n k i x
      simp only [Fin.pick] at hq
      cases hc : rcC n k i x with
      | false => rw [hc] at hq; cases hq
      | true =>
        rw [hc, cond_true] at hq
        unfold rcC at hc
        rw [decide_eq_true_eq] at hc
        obtain ⟨rfl, rfl, h1, h2, h3⟩ := hc
        have hf := rc_first E0 ptZ ptE okP val rd n k ((0 + 1 : Nat) : Int) 1
        by_cases h0 : k = 0
        · rw [decide_eq_true h0, cond_true] at hq
          cases hq
          rw [decide_eq_false (show ¬ ((0 + 1 : Nat) : Int) ≤ k by omega), cond_false] at hf
          exact loop_leave (T2 := rcT) (T' := rcX0) (orcQ_ok hTabZ_ok) mixed noLoops_ok (by kernel_rfl) (by kernel_rfl) hf codes0 (by simp)
        · rw [decide_eq_false h0, cond_false] at hq
          cases hq
          obtain ⟨a, ha⟩ : ∃ a : Nat, n = ((a + k.toNat : Nat) : Int) := ⟨n.toNat - k.toNat, by omega⟩
          have hk : k = ((k.toNat : Nat) : Int) := by omega
          generalize k.toNat = K at ha hk
          subst ha
          subst hk
          obtain ⟨m, hm⟩ := rc_loop rd a K (by omega) 1 (by omega)
          obtain ⟨hA, q1, q2, q3, q4, q5, q6, q7, q8, q9, w⟩ := rc_step (a := a) (K := K) (j := 0) (by omega) (by omega)
          have e1 : ([1] : List Int) = D (ch (a + 0) 0) := by rw [ch_zero]; rfl
          rw [e1, hA, q1, q2, q3, q4, q5, q6, q7, q8, q9, w, decide_eq_true (show ((0 + 1 : Nat) : Int) ≤ (K : Int) by omega)] at hf
          exact loop_peel (T2 := rcT) (T' := rcX0) (orcQ_ok hTabZ_ok) mixed noLoops_ok (by kernel_rfl) (by kernel_rfl) hf codes0 hm
    · cases hq
  · cases hg
theorem rchoose_eval (n k : Int) : evalFn Tryd.prog (orcQ (hTabZ E0 ptZ ptE okP val)) rcL 200 32 Tryd.f32 [.int .i64 n, .int .i64 k] [] (fun v _ => some v) =
    bif decide (n < 0) then some (.tuple [nW 0, .int .i64 2]) else bif decide (128 < n) then some (.tuple [nW 0, .int .i64 5]) else bif decide (k < 0) then some (.tuple [nW 0, .int .i64 0]) else bif decide (n < k) then some (.tuple [nW 0, .int .i64 0]) else
      cond (codesB [(rcLp, rcLp)]) (bif rcC n k 1 1 then bif decide (k = 0) then bif okP [1] then some (.tuple [nW (ptZ (val [1])), .int .i64 (ptE (val [1]))]) else none else bif okP (rcD n k) then some (.tuple [nW (ptZ (val (rcD n k))), .int .i64 (ptE (val (rcD n k)))]) else none else none) none := by kernel_rfl
theorem rchoose_p (n k : Int) : FnPure Tryd.prog 32 [.int .i64 n, .int .i64 k] (.tuple [nW (chZ n k), .int .i64 (chE n)]) := by
  refine fnPure_of_eval (N := 200) (orcQ_ok hTabZ_ok) mixed Tryd.func32 (by kernel_rfl) rcL_ok ?_ rfl rfl
  have hcd : codesB [(rcLp, rcLp)] = true := by rw [codesB_iff]; intro x hx; simp at hx; rw [hx]
  rw [rchoose_eval, hcd]
  by_cases h0 : n < 0
  · unfold chZ chE
    rw [decide_eq_true h0]; rfl
  · by_cases h1 : 128 < n
    · unfold chZ chE
      rw [decide_eq_false h0, decide_eq_true h1]; rfl
    · rw [chE_zero ⟨by omega, by omega⟩, chZ_eq ⟨by omega, by omega⟩, decide_eq_false h0, decide_eq_false h1]
      by_cases h2 : k < 0
      · rw [decide_eq_true h2, if_neg (by omega)]; rfl
      · by_cases h3 : n < k
        · rw [decide_eq_false h2, decide_eq_true h3, if_neg (by omega)]; rfl
        · have hc := ch_lt128 (n := n.toNat) (k := k.toNat) (by omega)
          have hC : rcC n k 1 1 = true := by unfold rcC; rw [decide_eq_true_eq]; omega
          rw [decide_eq_false h2, decide_eq_false h3, if_pos (by omega), hC]
          by_cases h4 : k = 0
          · subst h4
            rw [show ch n.toNat (Int.toNat 0) = 1 from ch_zero _]
            rfl
          · rw [decide_eq_false h4]
            simp only [cond_true, cond_false]
            unfold rcD
            have hpE : ptE ((ch n.toNat k.toNat : Nat) : Int) = 0 := by
              unfold ptE
              rw [decide_eq_true (by omega)]; rfl
            rw [okP_D hc, val_D, ptZ_lt hc, hpE]; rfl
end Go.Proofs.YthpdeiolhahobaaDoor
