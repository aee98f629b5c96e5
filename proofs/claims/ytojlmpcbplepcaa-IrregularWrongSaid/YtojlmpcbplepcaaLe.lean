/- Texts merged: Le, Le2. -/
import Derived.Test.YtojlmpcbplepcaaAc4
/- Chapter 10: Turn; Legal: one round. -/
namespace Go.Proofs.Ytojlmpcbplepcaa
open Go Go.Eng
noncomputable abbrev evE (N : NC) (f : FuncId) (fn : Func) (args : List V) (xs ac : List Int) : Option V := evalFn Try.prog (orcE10 N (dTurn N) (dKind N) (tabS N) plainL) noLoops 100 f fn args (crsH false false xs ac) (fun v _ => some v)
theorem evE_fn {f : FuncId} {fn : Func} (hf : Try.prog.funcs[f]? = some fn) {args : List V} {xs ac : List Int} {v : V} (h : evE nC f fn args xs ac = some v) (hv : plainV v = true) (n1 n2 : Bool) : FnOK Try.prog f args (crsH n1 n2 xs ac) v (crsH n1 n2 xs ac) := by
  obtain ⟨v1, h1, hk1, hok⟩ := evalFn_ok (orcE10_ok (dTurn_ok nC_ok) dKind_ok tabS_ok plainL_ok) mixed hf noLoops_ok h
  cases hk1
  exact plain_crs (hok.plain hv crs_ro)
theorem turn14_eval (N : NC) (xs ac : List Int) (s : CD) : evE N 14 Try.f14 [.agg (s.vs (.gs 0) (.gs 1))] xs ac = bif N.J.OK xs then bif !decide (N.OP s xs ac = 0) then some (.tuple [.int .u8 0, .int .i64 (N.OP s xs ac)]) else some (.tuple [.int .u8 (N.TR s xs), .int .i64 0]) else none := by kernel_rfl
def tuV (s : CD) (xs ac : List Int) : Int := bif decide (opI s xs ac = 0) then trnI s xs else 0
theorem turn14_fn (n1 n2 : Bool) {s : CD} {xs ac : List Int} (h : okL xs = true) : FnOK Try.prog 14 [.agg (s.vs (.gs 0) (.gs 1))] (crsH n1 n2 xs ac) (.tuple [.int .u8 (tuV s xs ac), .int .i64 (opI s xs ac)]) (crsH n1 n2 xs ac) := by
  refine evE_fn Try.func14 (v := .tuple [.int .u8 (tuV s xs ac), .int .i64 (opI s xs ac)]) ?_ rfl n1 n2
  rw [turn14_eval, show nC.J.OK xs = true from h]
  unfold tuV
  show (bif !decide (opI s xs ac = 0) then some (V.tuple [.int .u8 0, .int .i64 (opI s xs ac)]) else some (V.tuple [.int .u8 (trnI s xs), .int .i64 0])) = _
  by_cases ho : opI s xs ac = 0
  · rw [ho]; rfl
  · rw [decide_eq_false ho]; rfl
/-! ### Legal -/
noncomputable def lgLp : Code := loopOf 6 Try.f18
def lgT : Tm := ⟨mkS [(1, .ptr 2 0), (5, .gs 3), (6, .int .u8)] 0 24, [.rs false 1 (.ints .u8), .rs false 1 (.ints .i64), .own 29 (.vs (crsT (.gs 0) (.gs 1))), .grow false 5 1 (.ints .u8)], []⟩
def lgX : Tm := ⟨mkS [(5, .gs 3)] 0 24, [.rs false 1 (.ints .u8), .rs false 1 (.ints .i64), .dead, .grow false 5 1 (.ints .u8)], []⟩
def lgIn (c : Int) (xs ac : List Int) (s : CD) (ys : List Int) : List PV := .i c :: .l xs :: .l ac :: s.pv [.l ys]
def lgOut (xs ac ys : List Int) : List PV := [.l xs, .l ac, .l ys]
theorem lg_round (N : NC) (rd : Option Nat) (c : Int) (s : CD) (xs ac ys : List Int) : roundT Try.prog (orcE10 N (dTurn N) (dKind N) (addTab 35 gRight emptyTab) plainL) noLoops 100 2 rd 18 lgLp lgT lgX (lgIn c xs ac s ys) =
    bif decide (c ≤ 37) then bif N.J.OK xs && (N.DK s && N.J.BY c) then bif N.LG s xs c then bif decide ((ys ++ [c]).length * 2 ≤ 70368744177664) then some (.normal, lgIn (wr .u8 (c + 1)) xs ac s (ys ++ [c]), []) else none else some (.normal, lgIn (wr .u8 (c + 1)) xs ac s ys, []) else none else some (.exit 0, lgOut xs ac ys, []) := by kernel_rfl
end Go.Proofs.Ytojlmpcbplepcaa

/- Chapter 10: Legal's contract. -/
namespace Go.Proofs.Ytojlmpcbplepcaa
open Go Go.Eng
theorem tabG_ok : PTabOk Try.prog (addTab 35 gRight emptyTab) := tabR_ok
theorem by38 {c : Nat} (h : c < 38) : byB (c : Int) = true := decide_eq_true (by omega)
theorem lg_loop (rd : Option Nat) (xs ac : List Int) (s : CD) (h : okL xs = true) (hd : dkB s = true) : ∀ x : Nat × List Int, (x.1 ≤ 38 ∧ x.2.length ≤ x.1) →
    SimC Try.prog 2 rd (.loop lgLp) (lgT.at (lgIn (x.1 : Int) xs ac s x.2)) (.exit 0) (lgX.at (lgOut xs ac (x.2 ++ (calls38.drop x.1).filter (lgI s xs)))) := by
  refine loop_of_rounds (C := orcE10 nC (dTurn nC) (dKind nC) (addTab 35 gRight emptyTab) plainL) (L := noLoops) (N := 100) (me := 18) (T := lgT) (T' := lgX) (orcE10_ok (dTurn_ok nC_ok) dKind_ok tabR_ok plainL_ok) mixed noLoops_ok (by kernel_rfl) (by kernel_rfl) (X := Nat × List Int)
    (fun x => lgIn (x.1 : Int) xs ac s x.2) (fun x => x.1 ≤ 38 ∧ x.2.length ≤ x.1) (fun x => 38 - x.1) (fun x => (.exit 0, lgOut xs ac (x.2 ++ (calls38.drop x.1).filter (lgI s xs)))) ?_
  rintro ⟨i, ys⟩ ⟨hi, hy⟩
  dsimp only at hi hy ⊢
  have key := lg_round nC rd (i : Int) s xs ac ys
  rcases Nat.lt_or_ge i 38 with hlt | hge
  · have hw : wr .u8 ((i : Int) + 1) = ((i + 1 : Nat) : Int) := by rw [wr_u8_id (by omega)]; omega
    rw [decide_eq_true (show (i : Int) ≤ 37 by omega), cond_true, show nC.J.OK xs = true from h, show nC.DK s = true from hd, show nC.J.BY = byB from rfl, by38 hlt, hw, decide_eq_true (show (ys ++ [(i : Int)]).length * 2 ≤ 70368744177664 by rw [List.length_append, List.length_singleton]; omega), show nC.LG s xs (i : Int) = lgI s xs i from rfl] at key
    rw [List.drop_eq_getElem_cons (show i < calls38.length from hlt), List.filter_cons, c38_get hlt]
    cases hb : lgI s xs (i : Int) with
    | true =>
      rw [hb] at key
      refine ⟨_, _, _, key, codesNil, .inl ⟨rfl, (i + 1, ys ++ [(i : Int)]), rfl, ⟨by dsimp only; omega, by dsimp only; rw [List.length_append, List.length_singleton]; omega⟩, by dsimp only; omega, ?_⟩⟩
      dsimp only
      rw [if_pos rfl, List.append_assoc]; rfl
    | false =>
      rw [hb] at key
      refine ⟨_, _, _, key, codesNil, .inl ⟨rfl, (i + 1, ys), rfl, ⟨by dsimp only; omega, by dsimp only; omega⟩, by dsimp only; omega, ?_⟩⟩
      dsimp only
      rw [if_neg (by simp)]
  · rw [decide_eq_false (show ¬ (i : Int) ≤ 37 by omega), cond_false] at key
    refine ⟨_, _, _, key, codesNil, .inr ⟨by simp, ?_⟩⟩
    rw [List.drop_eq_nil_of_le (by rw [c38_len]; omega), List.filter_nil, List.append_nil]
/-- The legal calls. -/
def lgsI (s : CD) (xs : List Int) : List Int := calls38.filter (lgI s xs)
noncomputable def lgTree (N : NC) (LS : CD → List Int → List Int) : List PV → Fin
  | .i c :: .l xs :: .l ac :: ps => match crsP ps with
    | some (s, [.l ys]) => .br (decide (c = 0 ∧ ys.length = 0) && (N.J.OK xs && N.DK s)) (.leaf (.exit 0) (lgX.at (lgOut xs ac (LS s xs)))) .no
    | _ => .no
  | _ => .no
noncomputable def lgL (N : NC) (LS : CD → List Int → List Int) : Loops := sums (fun n => match n with | 6 => some (lsumF 2 lgT lgLp (lgTree N LS)) | _ => none)
theorem lgL_ok : loopsOk Try.prog (lgL nC lgsI) := by
  intro n g hg
  simp only [lgL, sums] at hg
  split at hg
  · cases hg
    refine lsumF_ok (by kernel_rfl) (fun rd ps e1 st1 hq => ?_)
    unfold lgTree at hq
    split at hq
    · rename_i c xs ac ps
      split at hq
      · rename_i s ys hs
        rw [crsP_ok hs]
        simp only [Fin.pick] at hq
        cases hc : decide (c = 0 ∧ ys.length = 0) && (nC.J.OK xs && nC.DK s) with
        | false => rw [hc] at hq; cases hq
        | true =>
          rw [hc, cond_true] at hq
          simp only [Bool.and_eq_true, decide_eq_true_eq] at hc
          obtain ⟨⟨rfl, h1⟩, h2, h3⟩ := hc
          obtain rfl := List.eq_nil_of_length_eq_zero h1
          cases hq
          exact lg_loop rd xs ac s h2 h3 (0, []) ⟨Nat.zero_le _, Nat.le_refl _⟩
      · cases hq
    · cases hq
  · cases hg
/-- An answer: a list of calls and a number. -/
def lstA : Tm := ⟨[some (.tuple [.gs 2, .int .i64])], [.rs false 1 (.ints .u8), .rs false 1 (.ints .i64), .grow false 5 1 (.ints .u8)], []⟩
theorem legal_eval18 (N : NC) (LS : CD → List Int → List Int) (xs ac : List Int) (s : CD) : evalFn Try.prog (orcE10 N (dTurn N) (dKind N) (addTab 35 gRight emptyTab) plainL) (lgL N LS) 100 18 Try.f18 [.agg (s.vs (.gs 0) (.gs 1))] (crsH false false xs ac) (ansT lstA 2) =
    bif N.J.OK xs then bif !decide (N.OP s xs ac = 0) then some ([.i (N.OP s xs ac), .l xs, .l ac, .l []], []) else cond (codesB [(lgLp, lgLp)]) (bif decide ((0 : Int) = 0 ∧ ([] : List Int).length = 0) && (N.J.OK xs && N.DK s) then some ([.i 0, .l xs, .l ac, .l (LS s xs)], []) else none) none else none := by kernel_rfl
def lgV (s : CD) (xs ac : List Int) : List Int := bif decide (opI s xs ac = 0) then lgsI s xs else []
theorem lgCd : codesB [(lgLp, lgLp)] = true := by rw [codesB_iff]; intro x hx; simp at hx; rw [hx]
theorem legal18_fn (n1 n2 : Bool) {s : CD} {xs ac : List Int} (h : okL xs = true) (hd : dkB s = true) : FnOK Try.prog 18 [.agg (s.vs (.gs 0) (.gs 1))] (crsH n1 n2 xs ac) (.tuple [.gs 2, .int .i64 (opI s xs ac)]) (crsH n1 n2 xs ac ++ [.grow false 5 1 (.ints .u8 (lgV s xs ac))]) := by
  have key := legal_eval18 nC lgsI xs ac s
  have e : (bif nC.J.OK xs then bif !decide (nC.OP s xs ac = 0) then some ([PV.i (nC.OP s xs ac), .l xs, .l ac, .l []], []) else cond (codesB [(lgLp, lgLp)]) (bif decide ((0 : Int) = 0 ∧ ([] : List Int).length = 0) && (nC.J.OK xs && nC.DK s) then some ([PV.i 0, .l xs, .l ac, .l (lgsI s xs)], []) else none) none else none) =
      some ([PV.i (opI s xs ac), .l xs, .l ac, .l (lgV s xs ac)], ([] : List (Code × Code))) := by
    rw [show nC.J.OK xs = true from h, show nC.DK s = true from hd, lgCd, decide_eq_true (show (0 : Int) = 0 ∧ ([] : List Int).length = 0 from ⟨rfl, rfl⟩), show nC.OP s xs ac = opI s xs ac from rfl]
    unfold lgV
    by_cases ho : opI s xs ac = 0
    · rw [ho]; rfl
    · rw [decide_eq_false ho]; rfl
  rw [e] at key
  exact fn_crs (fn_ans (T := lstA) (orcE10_ok (dTurn_ok nC_ok) dKind_ok tabR_ok plainL_ok) mixed Try.func18 lgL_ok (by kernel_rfl) key codesNil rfl)
end Go.Proofs.Ytojlmpcbplepcaa
