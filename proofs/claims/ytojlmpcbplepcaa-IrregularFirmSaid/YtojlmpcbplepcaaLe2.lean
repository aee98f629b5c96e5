/- Chapter 10: Legal's contract. -/
import Derived.Test.YtojlmpcbplepcaaLe
namespace Go.Proofs.Ytojlmpcbplepcaa
open Go Go.Eng
theorem tabG_ok : PTabOk Try.prog (addTab 35 gRight emptyTab) := tabR_ok
theorem by38 {c : Nat} (h : c < 38) : byB (c : Int) = true := decide_eq_true (by omega)
theorem lg_loop (rd : Option Nat) (xs ac : List Int) (s : CD) (h : okL xs = true) (hd : dkB s = true) : ∀ x : Nat × List Int, (x.1 ≤ 38 ∧ x.2.length ≤ x.1) →
    SimC Try.prog 2 rd (.loop lgLp) (lgT.at (lgIn (x.1 : Int) xs ac s x.2)) (.exit 0) (lgX.at (lgOut xs ac (x.2 ++ (calls38.drop x.1).filter (lgI s xs)))) := by
  refine loop_of_rounds (C := orcE10 nC (dTurn nC) (dKind nC) (addTab 35 gRight emptyTab) plainL) (L := noLoops) (N := 100) (me := 18) (T := lgT) (T' := lgX) (orcE10_ok (dTurn_ok nC_ok) dKind_ok tabR_ok plainL_ok) mixed noLoops_ok (by kernel_rfl) (by kernel_rfl) (X := Nat × List Int)
    (fun x => lgIn (x.1 : Int) xs ac s x.2) (fun x => x.1 ≤ 38 ∧ x.2.length ≤ x.1) (fun x => 38 - x.1) (fun x => (.exit 0, lgOut xs ac (x.2 ++ (calls38.drop x.1).filter (lgI s xs)))) ?_
  rintro ⟨i, ys⟩ ⟨hi, hy⟩
  dsimp only at hi hy ⊢
  have key := lg_round nC rd (i : Int) s xs ac ys
  rcases Nat.lt_or_ge i 38 with hlt | hge
  · have hw : wr .u8 ((i : Int) + 1) = ((i + 1 : Nat) : Int) := by rw [wr_u8_id (by omega)]; omega
    rw [decide_eq_true (show (i : Int) ≤ 37 by omega), cond_true, show nC.J.OK xs = true from h, show nC.DK s = true from hd, show nC.J.BY = byB from rfl, by38 hlt, hw, decide_eq_true (show (ys ++ [(i : Int)]).length * 2 ≤ 70368744177664 by rw [List.length_append, List.length_singleton]; omega), show nC.LG s xs (i : Int) = lgI s xs i from rfl] at key
    rw [List.drop_eq_getElem_cons (show i < calls38.length from hlt), List.filter_cons, c38_get hlt]
    cases hb : lgI s xs (i : Int) with
    | true =>
      rw [hb] at key
      refine ⟨_, _, _, key, codesNil, .inl ⟨rfl, (i + 1, ys ++ [(i : Int)]), rfl, ⟨by dsimp only; omega, by dsimp only; rw [List.length_append, List.length_singleton]; omega⟩, by dsimp only; omega, ?_⟩⟩
      dsimp only
      rw [if_pos rfl, List.append_assoc]; rfl
    | false =>
      rw [hb] at key
      refine ⟨_, _, _, key, codesNil, .inl ⟨rfl, (i + 1, ys), rfl, ⟨by dsimp only; omega, by dsimp only; omega⟩, by dsimp only; omega, ?_⟩⟩
      dsimp only
      rw [if_neg (by simp)]
  · rw [decide_eq_false (show ¬ (i : Int) ≤ 37 by omega), cond_false] at key
    refine ⟨_, _, _, key, codesNil, .inr ⟨by simp, ?_⟩⟩
    rw [List.drop_eq_nil_of_le (by rw [c38_len]; omega), List.filter_nil, List.append_nil]
/-- The legal calls. -/
def lgsI (s : CD) (xs : List Int) : List Int := calls38.filter (lgI s xs)
noncomputable def lgTree (N : NC) (LS : CD → List Int → List Int) : List PV → Fin
  | .i c :: .l xs :: .l ac :: ps => match crsP ps with
    | some (s, [.l ys]) => .br (decide (c = 0 ∧ ys.length = 0) && (N.J.OK xs && N.DK s)) (.leaf (.exit 0) (lgX.at (lgOut xs ac (LS s xs)))) .no
    | _ => .no
  | _ => .no
noncomputable def lgL (N : NC) (LS : CD → List Int → List Int) : Loops := sums (fun n => match n with | 6 => some (lsumF 2 lgT lgLp (lgTree N LS)) | _ => none)
theorem lgL_ok : loopsOk Try.prog (lgL nC lgsI) := by
  intro n g hg
  simp only [lgL, sums] at hg
  split at hg
  · cases hg
    refine lsumF_ok (by kernel_rfl) (fun rd ps e1 st1 hq => ?_)
    unfold lgTree at hq
    split at hq
    · rename_i c xs ac ps
      split at hq
      · rename_i s ys hs
        rw [crsP_ok hs]
        simp only [Fin.pick] at hq
        cases hc : decide (c = 0 ∧ ys.length = 0) && (nC.J.OK xs && nC.DK s) with
        | false => rw [hc] at hq; cases hq
        | true =>
          rw [hc, cond_true] at hq
          simp only [Bool.and_eq_true, decide_eq_true_eq] at hc
          obtain ⟨⟨rfl, h1⟩, h2, h3⟩ := hc
          obtain rfl := List.eq_nil_of_length_eq_zero h1
          cases hq
          exact lg_loop rd xs ac s h2 h3 (0, []) ⟨Nat.zero_le _, Nat.le_refl _⟩
      · cases hq
    · cases hq
  · cases hg
/-- An answer: a list of calls and a number. -/
def lstA : Tm := ⟨[some (.tuple [.gs 2, .int .i64])], [.rs false 1 (.ints .u8), .rs false 1 (.ints .i64), .grow false 5 1 (.ints .u8)], []⟩
theorem legal_eval18 (N : NC) (LS : CD → List Int → List Int) (xs ac : List Int) (s : CD) : evalFn Try.prog (orcE10 N (dTurn N) (dKind N) (addTab 35 gRight emptyTab) plainL) (lgL N LS) 100 18 Try.f18 [.agg (s.vs (.gs 0) (.gs 1))] (crsH false false xs ac) (ansT lstA 2) =
    bif N.J.OK xs then bif !decide (N.OP s xs ac = 0) then some ([.i (N.OP s xs ac), .l xs, .l ac, .l []], []) else cond (codesB [(lgLp, lgLp)]) (bif decide ((0 : Int) = 0 ∧ ([] : List Int).length = 0) && (N.J.OK xs && N.DK s) then some ([.i 0, .l xs, .l ac, .l (LS s xs)], []) else none) none else none := by kernel_rfl
def lgV (s : CD) (xs ac : List Int) : List Int := bif decide (opI s xs ac = 0) then lgsI s xs else []
theorem lgCd : codesB [(lgLp, lgLp)] = true := by rw [codesB_iff]; intro x hx; simp at hx; rw [hx]
theorem legal18_fn (n1 n2 : Bool) {s : CD} {xs ac : List Int} (h : okL xs = true) (hd : dkB s = true) : FnOK Try.prog 18 [.agg (s.vs (.gs 0) (.gs 1))] (crsH n1 n2 xs ac) (.tuple [.gs 2, .int .i64 (opI s xs ac)]) (crsH n1 n2 xs ac ++ [.grow false 5 1 (.ints .u8 (lgV s xs ac))]) := by
  have key := legal_eval18 nC lgsI xs ac s
  have e : (bif nC.J.OK xs then bif !decide (nC.OP s xs ac = 0) then some ([PV.i (nC.OP s xs ac), .l xs, .l ac, .l []], []) else cond (codesB [(lgLp, lgLp)]) (bif decide ((0 : Int) = 0 ∧ ([] : List Int).length = 0) && (nC.J.OK xs && nC.DK s) then some ([PV.i 0, .l xs, .l ac, .l (lgsI s xs)], []) else none) none else none) =
      some ([PV.i (opI s xs ac), .l xs, .l ac, .l (lgV s xs ac)], ([] : List (Code × Code))) := by
    rw [show nC.J.OK xs = true from h, show nC.DK s = true from hd, lgCd, decide_eq_true (show (0 : Int) = 0 ∧ ([] : List Int).length = 0 from ⟨rfl, rfl⟩), show nC.OP s xs ac = opI s xs ac from rfl]
    unfold lgV
    by_cases ho : opI s xs ac = 0
    · rw [ho]; rfl
    · rw [decide_eq_false ho]; rfl
  rw [e] at key
  exact fn_crs (fn_ans (T := lstA) (orcE10_ok (dTurn_ok nC_ok) dKind_ok tabR_ok plainL_ok) mixed Try.func18 lgL_ok (by kernel_rfl) key codesNil rfl)
end Go.Proofs.Ytojlmpcbplepcaa
