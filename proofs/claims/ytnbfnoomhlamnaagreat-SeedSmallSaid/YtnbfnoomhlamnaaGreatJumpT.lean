/- Texts merged: JumpT, Jump. -/
import Derived.Test.YtnbfnoomhlamnaaGreatFrame
import Derived.Test.YtnbfnoomhlamnaaGreatEng4
/- Chapter 3: the states of the loop in which the powers are yielded to Jump. -/
namespace Go.Proofs.YtnbfnoomhlamnaaGreat
open Go Go.Eng

def u : TV := .tuple []
def o : Option TV := none
noncomputable def jumpA : Code := rangeA 6 Tryz.f19
noncomputable def jumpB : Code := rangeB 6 Tryz.f19
noncomputable def jumpLp : Code := loopOf 2 Tryz.f55
noncomputable def jumpT : Tm := ⟨[some (.yield 3), o, o, some (.int .i64), some (.int .i64), o, o, o, o, o, o, o, o, o, o, o, o, o, o, o, o, o, o],
  [.own 3 (.vs [.int .i64]), .dead, .defs, .loopB false 19 [some (.int .i64), some (.int .i64), some u, some u, some (.lit .i64 0), some (.lit .i64 0), some (.ptr 0 0), some u, some (.int .i64), some .bool, some .bool,
    some (.int .i64), some (.int .i64), some (.int .i64), some (.func 55 [.ptr 1 0]), some u, some u, some u, some u, some u, some u] [15] jumpA jumpB 2], []⟩
def jumpC (s k s2 : Int) (b1 b2 : Bool) (s3 k2 r : Int) : List PV := [.i s, .i k, .i s2, .b b1, .b b2, .i s3, .i k2, .i r]
def jumpP (p l a : Int) (c : List PV) : List PV := .i p :: .i l :: .i a :: c
end Go.Proofs.YtnbfnoomhlamnaaGreat

/- Chapter 3: what Jump answers, for all states and numbers of steps. -/
namespace Go.Proofs.YtnbfnoomhlamnaaGreat
open Go Go.Eng

noncomputable def jumpX : Tm := ⟨[some (.yield 3), o, o, o, o, o, o, o, o, o, o, o, o, o, o, o, o, o, o, o, o, o, o], jumpT.blks, []⟩
def mulP (a b : Int) : Int := (wr .i64 (a * b)).tmod 2147483647
def jumpR (p l a : Int) : Int := if h : 0 < l then jumpR (mulP p p) (l / 2) (bif decide (l.tmod 2 = 1) then mulP a p else a) else a
termination_by l.toNat
decreasing_by omega

theorem jump_round (rd : Option Nat) (p l a s k s2 : Int) (b1 b2 : Bool) (s3 k2 r : Int) :
    roundT Tryz.prog (orc tab1 plainL) noLoops 100 4 rd 55 jumpLp jumpT jumpX (jumpP p l a (jumpC s k s2 b1 b2 s3 k2 r)) =
      bif decide (0 < l) then
        bif decide (l.tmod 2 = 1) then some (.normal, jumpP (mulP p p) (wr .i64 (l.tdiv 2)) (mulP a p) (jumpC s k s2 b1 b2 s3 k2 r), [(jumpA, jumpA), (jumpB, jumpB)])
        else some (.normal, jumpP (mulP p p) (wr .i64 (l.tdiv 2)) a (jumpC s k s2 b1 b2 s3 k2 r), [(jumpA, jumpA), (jumpB, jumpB)])
      else some (.exit 0, .i a :: jumpC s k s2 b1 b2 s3 k2 r, [(jumpA, jumpA), (jumpB, jumpB)]) := by kernel_rfl
theorem codes2 {a b : Code} : codesOk [(a, a), (b, b)] := by intro x hx; simp at hx; rcases hx with rfl | rfl <;> rfl
theorem wr64 {x : Int} (h1 : -9223372036854775808 ≤ x) (h2 : x < 9223372036854775808) : wr .i64 x = x := by
  simp only [wr, sgn]
  cases h : decide (9223372036854775808 ≤ x % 18446744073709551616) with
  | true => simp only [decide_eq_true_eq] at h; simp only [cond_true]; omega
  | false => simp only [decide_eq_false_iff_not] at h; simp only [cond_false]; omega
theorem tdiv2 {l : Int} (h : 0 ≤ l) : l.tdiv 2 = l / 2 := Int.tdiv_eq_ediv_of_nonneg h

theorem jump_loop (rd : Option Nat) (s k s2 : Int) (b1 b2 : Bool) (s3 k2 r : Int) : ∀ x : Int × Int × Int, x.2.1 < 9223372036854775808 →
    SimC Tryz.prog 4 rd (.loop jumpLp) (jumpT.at (jumpP x.1 x.2.1 x.2.2 (jumpC s k s2 b1 b2 s3 k2 r))) (.exit 0) (jumpX.at (.i (jumpR x.1 x.2.1 x.2.2) :: jumpC s k s2 b1 b2 s3 k2 r)) := by
  refine loop_of_rounds (C := orc tab1 plainL) (L := noLoops) (N := 100) (me := 55) (T := jumpT) (T' := jumpX) (inl_ok (oracleOf_ok emptyTab_ok) ftab_ok tab1_ok plainL_ok mixed 20) mixed (noLoops_ok) (by kernel_rfl) (by kernel_rfl) (X := Int × Int × Int)
    (fun x => jumpP x.1 x.2.1 x.2.2 (jumpC s k s2 b1 b2 s3 k2 r)) (fun x => x.2.1 < 9223372036854775808) (fun x => x.2.1.toNat) (fun x => (.exit 0, .i (jumpR x.1 x.2.1 x.2.2) :: jumpC s k s2 b1 b2 s3 k2 r)) ?_
  rintro ⟨p, l, a⟩ hx
  dsimp only at hx ⊢
  have h := jump_round rd p l a s k s2 b1 b2 s3 k2 r
  cases hl : decide (0 < l) with
  | false =>
    rw [hl, cond_false] at h
    simp only [decide_eq_false_iff_not] at hl
    refine ⟨_, _, _, h, codes2, .inr ⟨by simp, ?_⟩⟩
    unfold jumpR
    rw [dif_neg hl]
  | true =>
    rw [hl, cond_true] at h
    simp only [decide_eq_true_eq] at hl
    have hd : wr .i64 (l.tdiv 2) = l / 2 := by rw [tdiv2 (by omega), wr64 (by omega) (by omega)]
    rw [hd] at h
    cases ho : decide (l.tmod 2 = 1) with
    | true =>
      rw [ho, cond_true] at h
      refine ⟨_, _, _, h, codes2, .inl ⟨rfl, (mulP p p, l / 2, mulP a p), rfl, by dsimp only; omega, by dsimp only; omega, ?_⟩⟩
      dsimp only
      conv => rhs; unfold jumpR
      rw [dif_pos hl, ho, cond_true]
    | false =>
      rw [ho, cond_false] at h
      refine ⟨_, _, _, h, codes2, .inl ⟨rfl, (mulP p p, l / 2, a), rfl, by dsimp only; omega, by dsimp only; omega, ?_⟩⟩
      dsimp only
      conv => rhs; unfold jumpR
      rw [dif_pos hl, ho, cond_false]

def jumpInv : List PV → Bool
  | [.i _, .i l, .i _, .i _, .i _, .i _, .b _, .b _, .i _, .i _, .i _] => decide (l < 9223372036854775808)
  | _ => false
noncomputable def jumpFin : List PV → XE × AS
  | .i p :: .i l :: .i a :: c => (.exit 0, jumpX.at (.i (jumpR p l a) :: c))
  | _ => (.ret, ⟨[], [], []⟩)
noncomputable def jumpSum : LoopSum := lsum 4 jumpT jumpLp jumpInv jumpFin
theorem jumpSum_ok : LoopOk Tryz.prog jumpSum := by
  refine lsum_ok (by kernel_rfl) fun rd ps h => ?_
  unfold jumpInv at h
  split at h
  · simp only [decide_eq_true_eq] at h
    exact jump_loop rd _ _ _ _ _ _ _ _ (_, _, _) h
  · cases h
noncomputable def jumpL : FuncId → Loops := fun f => match f with
  | 55 => sums (fun n => match n with | 2 => some jumpSum | _ => none)
  | _ => noLoops
theorem jumpL_ok : ∀ f, loopsOk Tryz.prog (jumpL f) := fun f => by
  unfold jumpL
  split
  · intro n g hg
    simp only [sums] at hg
    split at hg
    · cases hg; exact jumpSum_ok
    · cases hg
  · exact noLoops_ok

/-! ### the remainder; the jump -/
def restI (n : Int) : Int := bif decide (n.tmod 2147483646 < 0) then wr .i64 (n.tmod 2147483646 + 2147483646) else n.tmod 2147483646
theorem rest_eval (n : Int) : evalAt tab1 plainL 14 Tryz.f14 [.int .i64 n] = bif decide (n.tmod 2147483646 < 0) then some (.int .i64 (wr .i64 (n.tmod 2147483646 + 2147483646))) else some (.int .i64 (n.tmod 2147483646)) := by kernel_rfl
theorem rest_pure (n : Int) : FnPure Tryz.prog 14 [.int .i64 n] (.int .i64 (restI n)) := by
  refine pure_at tab1_ok plainL_ok Tryz.func14 (by kernel_rfl) ?_ rfl rfl
  rw [rest_eval, restI]
  cases decide (n.tmod 2147483646 < 0) <;> rfl
def gRest : List V → Option (Bool × V)
  | [.int .i64 n] => some (true, .int .i64 (restI n))
  | _ => none
def tab2 : PTab := addTab 14 gRest tab1
theorem tab2_ok : PTabOk Tryz.prog tab2 := by
  refine addTab_ok ?_ tab1_ok
  intro args c v h _
  unfold gRest at h
  split at h
  · cases h; exact rest_pure _
  · cases h
def jumpI (s k : Int) : Int := bif rightB s then jumpR 48271 (restI k) s else 0
def errI (b : Bool) : Int := bif b then 0 else 2
theorem jump_all (s k : Int) : evalAt tab2 jumpL 19 Tryz.f19 [.int .i64 s, .int .i64 k] =
    bif !rightB s then some err2 else cond (codesB [(jumpLp, jumpLp), (jumpA, jumpA), (jumpB, jumpB)]) (cond (decide (restI k < 9223372036854775808)) (some (.tuple [.int .i64 (jumpR 48271 (restI k) s), .int .i64 0])) none) none := by kernel_rfl
theorem rest_small (n : Int) : 0 ≤ restI n ∧ restI n < 2147483646 := by
  have h2 := Int.tmod_lt_of_pos n (show (0 : Int) < 2147483646 by omega)
  have h3 : -2147483646 < n.tmod 2147483646 := by
    rcases Int.le_total 0 n with h | h
    · have := Int.tmod_nonneg 2147483646 h; omega
    · have h4 := Int.tmod_lt_of_pos (-n) (show (0 : Int) < 2147483646 by omega)
      rw [Int.neg_tmod] at h4
      omega
  unfold restI
  generalize n.tmod 2147483646 = t at *
  cases h : decide (t < 0) with
  | true =>
    simp only [decide_eq_true_eq] at h
    rw [cond_true, wr64 (by omega) (by omega)]
    omega
  | false =>
    simp only [decide_eq_false_iff_not] at h
    rw [cond_false]
    omega
theorem jump_pure (s k : Int) : FnPure Tryz.prog 19 [.int .i64 s, .int .i64 k] (.tuple [.int .i64 (jumpI s k), .int .i64 (errI (rightB s))]) := by
  refine pure_at tab2_ok jumpL_ok Tryz.func19 (by kernel_rfl) ?_ rfl rfl
  rw [jump_all]
  have hc : codesB [(jumpLp, jumpLp), (jumpA, jumpA), (jumpB, jumpB)] = true := by
    rw [codesB_iff]; intro x hx; simp at hx; rcases hx with rfl | rfl | rfl <;> rfl
  have hr : decide (restI k < 9223372036854775808) = true := by have := rest_small k; simp; omega
  rw [hc, hr]
  cases h : rightB s with
  | true => simp only [Bool.not_true, cond_false, cond_true, jumpI, errI, h]
  | false => simp only [Bool.not_false, cond_true, jumpI, errI, h, cond_false]; rfl
end Go.Proofs.YtnbfnoomhlamnaaGreat
