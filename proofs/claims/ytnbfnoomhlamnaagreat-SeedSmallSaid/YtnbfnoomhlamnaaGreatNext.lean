/- Texts merged: Next, BelowT, Below, ShufT. -/
import Derived.Test.YtnbfnoomhlamnaaGreatJumpT
import Derived.Test.YtnbfnoomhlamnaaGreatEng4
/- Chapter 3: what Next answers, for all states. -/
namespace Go.Proofs.YtnbfnoomhlamnaaGreat
open Go Go.Eng
def nextS (s : Int) : Int := bif rightB s then mulP s 48271 else 0
def nextV (s : Int) : Int := bif rightB s then wr .i64 (mulP s 48271 - 1) else 0
theorem next_all (s : Int) : evalAt tab2 plainL 10 Tryz.f10 [.int .i64 s] = bif !rightB s then some err3 else some (.tuple [.int .i64 (mulP s 48271), .int .i64 (wr .i64 (mulP s 48271 - 1)), .int .i64 0]) := by kernel_rfl
theorem next_pure (s : Int) : FnPure Tryz.prog 10 [.int .i64 s] (.tuple [.int .i64 (nextS s), .int .i64 (nextV s), .int .i64 (errI (rightB s))]) := by
  refine pure_at tab2_ok plainL_ok Tryz.func10 (by kernel_rfl) ?_ rfl rfl
  rw [next_all]
  cases h : rightB s with
  | true => simp only [Bool.not_true, cond_false, cond_true, nextS, nextV, errI, h]
  | false => simp only [Bool.not_false, cond_true, nextS, nextV, errI, h, cond_false]; rfl
def gJump : List V → Option (Bool × V)
  | [.int .i64 s, .int .i64 k] => some (true, .tuple [.int .i64 (jumpI s k), .int .i64 (errI (rightB s))])
  | _ => none
def gNext : List V → Option (Bool × V)
  | [.int .i64 s] => some (true, .tuple [.int .i64 (nextS s), .int .i64 (nextV s), .int .i64 (errI (rightB s))])
  | _ => none
def tab3 : PTab := addTab 19 gJump (addTab 10 gNext tab2)
theorem tab3_ok : PTabOk Tryz.prog tab3 := by
  refine addTab_ok ?_ (addTab_ok ?_ tab2_ok)
  · intro args c v h _
    unfold gJump at h
    split at h
    · cases h; exact jump_pure _ _
    · cases h
  · intro args c v h _
    unfold gNext at h
    split at h
    · cases h; exact next_pure _
    · cases h
end Go.Proofs.YtnbfnoomhlamnaaGreat

/- Chapter 3: the states of the loop in which Below draws. -/
namespace Go.Proofs.YtnbfnoomhlamnaaGreat
open Go Go.Eng
noncomputable def belowLp : Code := loopOf 3 Tryz.f41
def belowT : Tm := ⟨[some (.func 40 [.ptr 0 0]), some (.func 42 [.ptr 1 0]), o, o, o, some (.int .i64), o, o, some (.int .i64), o, o, o, o, o, o, o, o], [.own 30 (.vs [.int .i64]), .own 3 (.vs [.int .i64])], []⟩
def belowX : Tm := ⟨[o, o, o, o, o, some (.int .i64), o, o, o, o, o, o, o, o, o, o, o], [.own 30 (.vs [.int .i64]), .own 3 (.vs [.int .i64])], []⟩
end Go.Proofs.YtnbfnoomhlamnaaGreat

/- Chapter 3: what Below answers, for all states and bounds. -/
namespace Go.Proofs.YtnbfnoomhlamnaaGreat
open Go Go.Eng

/-- The value and the state after at most so many tries more. -/
def belowR : Nat → Int → Int → Int → Int × Int
  | 0, v, s, _ => (v, s)
  | n + 1, v, s, m => bif decide (v < m) then (v, s) else belowR n (wr .i64 (mulP s 48271 - 1)) (mulP s 48271) m
theorem below_round (rd : Option Nat) (v i s m : Int) : roundT Tryz.prog (orc tab3 plainL) noLoops 100 2 rd 41 belowLp belowT belowX [.i v, .i i, .i s, .i m] =
    bif decide (i < 100) then bif decide (v < m) then some (.exit 0, [.i v, .i s, .i m], []) else
      some (.normal, [.i (wr .i64 (mulP s 48271 - 1)), .i (wr .i64 (i + 1)), .i (mulP s 48271), .i m], [])
    else some (.exit 0, [.i v, .i s, .i m], []) := by kernel_rfl
theorem codes0 : codesOk [] := fun _ h => by cases h
theorem below_loop (rd : Option Nat) : ∀ x : Nat × Int × Int × Int, x.1 ≤ 100 →
    SimC Tryz.prog 2 rd (.loop belowLp) (belowT.at [.i x.2.1, .i (100 - x.1), .i x.2.2.1, .i x.2.2.2]) (.exit 0) (belowX.at [.i (belowR x.1 x.2.1 x.2.2.1 x.2.2.2).1, .i (belowR x.1 x.2.1 x.2.2.1 x.2.2.2).2, .i x.2.2.2]) := by
  refine loop_of_rounds (C := orc tab3 plainL) (L := noLoops) (N := 100) (me := 41) (T := belowT) (T' := belowX) (inl_ok (oracleOf_ok emptyTab_ok) ftab_ok tab3_ok plainL_ok mixed 20) mixed (noLoops_ok) (by kernel_rfl) (by kernel_rfl) (X := Nat × Int × Int × Int)
    (fun x => [.i x.2.1, .i (100 - x.1), .i x.2.2.1, .i x.2.2.2]) (fun x => x.1 ≤ 100) (fun x => x.1) (fun x => (.exit 0, [.i (belowR x.1 x.2.1 x.2.2.1 x.2.2.2).1, .i (belowR x.1 x.2.1 x.2.2.1 x.2.2.2).2, .i x.2.2.2])) ?_
  rintro ⟨n, v, s, m⟩ hx
  dsimp only at hx ⊢
  have h := below_round rd v (100 - n) s m
  cases n with
  | zero =>
    rw [show decide ((100 : Int) - ((0 : Nat) : Int) < 100) = false from rfl, cond_false] at h
    exact ⟨_, _, _, h, codes0, .inr ⟨by simp, rfl⟩⟩
  | succ n =>
    have hi : decide ((100 : Int) - ((n + 1 : Nat) : Int) < 100) = true := decide_eq_true (by omega)
    rw [hi, cond_true] at h
    cases hv : decide (v < m) with
    | true =>
      rw [hv, cond_true] at h
      refine ⟨_, _, _, h, codes0, .inr ⟨by simp, ?_⟩⟩
      simp only [belowR, hv, cond_true]
    | false =>
      rw [hv, cond_false] at h
      have hw : wr .i64 ((100 : Int) - ((n + 1 : Nat) : Int) + 1) = 100 - (n : Int) := by rw [wr64 (by omega) (by omega)]; omega
      rw [hw] at h
      refine ⟨_, _, _, h, codes0, .inl ⟨rfl, (n, wr .i64 (mulP s 48271 - 1), mulP s 48271, m), rfl, by dsimp only; omega, by dsimp only; omega, ?_⟩⟩
      simp only [belowR, hv, cond_false]

def belowInv : List PV → Bool
  | [.i _, .i i, .i _, .i _] => decide (i = 0)
  | _ => false
def belowFin : List PV → XE × AS
  | [.i v, .i _, .i s, .i m] => (.exit 0, belowX.at [.i (belowR 100 v s m).1, .i (belowR 100 v s m).2, .i m])
  | _ => (.ret, ⟨[], [], []⟩)
noncomputable def belowSum : LoopSum := lsum 2 belowT belowLp belowInv belowFin
theorem belowSum_ok : LoopOk Tryz.prog belowSum := by
  refine lsum_ok (by kernel_rfl) fun rd ps h => ?_
  unfold belowInv at h
  split at h
  · simp only [decide_eq_true_eq] at h
    subst h
    exact below_loop rd (100, _, _, _) (Nat.le_refl _)
  · cases h
noncomputable def belowL : FuncId → Loops := fun f => match f with
  | 41 => sums (fun n => match n with | 3 => some belowSum | _ => none)
  | _ => noLoops
theorem belowL_ok : ∀ f, loopsOk Tryz.prog (belowL f) := fun f => by
  unfold belowL
  split
  · intro n g hg
    simp only [sums] at hg
    split at hg
    · cases hg; exact belowSum_ok
    · cases hg
  · exact noLoops_ok

def mostI (n : Int) : Int := wr .i64 (2147483646 - (2147483646 : Int).tmod n)
/-- What is drawn: the value below the greatest multiple, and the state. -/
def drawn (s n : Int) : Int × Int := belowR 100 (wr .i64 (mulP s 48271 - 1)) (mulP s 48271) (mostI n)
theorem below_all (s n : Int) : evalAt tab3 belowL 21 Tryz.f21 [.int .i64 s, .int .i64 n] =
    bif !rightB s then some err3 else bif decide (n < 1) then some err3 else bif decide (2147483646 < n) then some err3 else bif decide (n = 0) then none else
      cond (codesB [(belowLp, belowLp)]) (bif decide (n = 0) then none else some (.tuple [.int .i64 (drawn s n).2, .int .i64 ((drawn s n).1.tmod n), .int .i64 0])) none := by kernel_rfl
def belowS (s n : Int) : Int := bif belowB s n then 0 else (drawn s n).2
def belowV (s n : Int) : Int := bif belowB s n then 0 else (drawn s n).1.tmod n
theorem below_pure (s n : Int) : FnPure Tryz.prog 21 [.int .i64 s, .int .i64 n] (.tuple [.int .i64 (belowS s n), .int .i64 (belowV s n), .int .i64 (errI (!belowB s n))]) := by
  refine pure_at tab3_ok belowL_ok Tryz.func21 (by kernel_rfl) ?_ rfl rfl
  rw [below_all]
  have hc : codesB [(belowLp, belowLp)] = true := by
    rw [codesB_iff]; intro x hx; simp at hx; rw [hx]
  rw [hc]
  have bad : belowB s n = true → some err3 = some (V.tuple [.int .i64 (belowS s n), .int .i64 (belowV s n), .int .i64 (errI (!belowB s n))]) := fun h => by
    simp only [belowS, belowV, h, cond_true, Bool.not_true, errI, cond_false]; rfl
  cases h1 : !rightB s with
  | true => exact bad (by simp [belowB, h1])
  | false =>
    cases h2 : decide (n < 1) with
    | true => exact bad (by simp [belowB, h2])
    | false =>
      cases h3 : decide (2147483646 < n) with
      | true => exact bad (by simp [belowB, h3])
      | false =>
        simp only [decide_eq_false_iff_not] at h2
        have h4 : decide (n = 0) = false := by simp; omega
        have hb : belowB s n = false := by unfold belowB; rw [h1, h3]; simp; omega
        rw [h4]
        simp only [cond_true, cond_false, belowS, belowV, hb, Bool.not_false, errI]
def gBelow : List V → Option (Bool × V)
  | [.int .i64 s, .int .i64 n] => some (true, .tuple [.int .i64 (belowS s n), .int .i64 (belowV s n), .int .i64 (errI (!belowB s n))])
  | _ => none
def tab4 : PTab := addTab 21 gBelow tab3
theorem tab4_ok : PTabOk Tryz.prog tab4 := by
  refine addTab_ok ?_ tab3_ok
  intro args c v h _
  unfold gBelow at h
  split at h
  · cases h; exact below_pure _ _
  · cases h
end Go.Proofs.YtnbfnoomhlamnaaGreat

/- Chapter 3: the states of the loop in which Shuffle swaps. -/
namespace Go.Proofs.YtnbfnoomhlamnaaGreat
open Go Go.Eng
noncomputable def shufLp : Code := loopOf 7 Tryz.f11
def shufT (nn : Bool) : Tm := ⟨[some (.int .i64), o, o, o, o, o, o, some (.gs 1), some (.int .i64), o, o, o, o, o, o, o, o, o, o, o, o, o, o, o, o, o, o, o, o, o, o, o, o, o, o, o, o, o, o, o, o, o, o, o, o, o, o, o, o],
  [.rs nn 1 (.ints .i64), .grow true 3 1 (.ints .i64)], []⟩
end Go.Proofs.YtnbfnoomhlamnaaGreat
