/- Texts merged: Le, Le2, Cf, Sp. -/
import Derived.Test.YtojlmpcbplepcaaGreatAc4
/- Chapter 10: Turn; Legal: one round. -/
namespace Go.Proofs.YtojlmpcbplepcaaGreat
open Go Go.Eng
noncomputable abbrev evE (N : NC) (f : FuncId) (fn : Func) (args : List V) (xs ac : List Int) : Option V := evalFn Tryz.prog (orcE10 N (dTurn N) (dKind N) (tabS N) plainL) noLoops 100 f fn args (crsH false false xs ac) (fun v _ => some v)
theorem evE_fn {f : FuncId} {fn : Func} (hf : Tryz.prog.funcs[f]? = some fn) {args : List V} {xs ac : List Int} {v : V} (h : evE nC f fn args xs ac = some v) (hv : plainV v = true) (n1 n2 : Bool) : FnOK Tryz.prog f args (crsH n1 n2 xs ac) v (crsH n1 n2 xs ac) := by
  obtain ⟨v1, h1, hk1, hok⟩ := evalFn_ok (orcE10_ok (dTurn_ok nC_ok) dKind_ok tabS_ok plainL_ok) mixed hf noLoops_ok h
  cases hk1
  exact plain_crs (hok.plain hv crs_ro)
theorem turn14_eval (N : NC) (xs ac : List Int) (s : CD) : evE N 14 Tryz.f14 [.agg (s.vs (.gs 0) (.gs 1))] xs ac = bif N.J.OK xs then bif !decide (N.OP s xs ac = 0) then some (.tuple [.int .u8 0, .int .i64 (N.OP s xs ac)]) else some (.tuple [.int .u8 (N.TR s xs), .int .i64 0]) else none := by kernel_rfl
def tuV (s : CD) (xs ac : List Int) : Int := bif decide (opI s xs ac = 0) then trnI s xs else 0
theorem turn14_fn (n1 n2 : Bool) {s : CD} {xs ac : List Int} (h : okL xs = true) : FnOK Tryz.prog 14 [.agg (s.vs (.gs 0) (.gs 1))] (crsH n1 n2 xs ac) (.tuple [.int .u8 (tuV s xs ac), .int .i64 (opI s xs ac)]) (crsH n1 n2 xs ac) := by
  refine evE_fn Tryz.func14 (v := .tuple [.int .u8 (tuV s xs ac), .int .i64 (opI s xs ac)]) ?_ rfl n1 n2
  rw [turn14_eval, show nC.J.OK xs = true from h]
  unfold tuV
  show (bif !decide (opI s xs ac = 0) then some (V.tuple [.int .u8 0, .int .i64 (opI s xs ac)]) else some (V.tuple [.int .u8 (trnI s xs), .int .i64 0])) = _
  by_cases ho : opI s xs ac = 0
  · rw [ho]; rfl
  · rw [decide_eq_false ho]; rfl
noncomputable def lgLp : Code := loopOf 6 Tryz.f16
def lgT : Tm := ⟨mkS [(1, .ptr 2 0), (5, .gs 3), (6, .int .u8)] 0 24, [.rs false 1 (.ints .u8), .rs false 1 (.ints .i64), .own 27 (.vs (crsT (.gs 0) (.gs 1))), .grow false 5 1 (.ints .u8)], []⟩
def lgX : Tm := ⟨mkS [(5, .gs 3)] 0 24, [.rs false 1 (.ints .u8), .rs false 1 (.ints .i64), .dead, .grow false 5 1 (.ints .u8)], []⟩
def lgIn (c : Int) (xs ac : List Int) (s : CD) (ys : List Int) : List PV := .i c :: .l xs :: .l ac :: s.pv [.l ys]
def lgOut (xs ac ys : List Int) : List PV := [.l xs, .l ac, .l ys]
theorem lg_round (N : NC) (rd : Option Nat) (c : Int) (s : CD) (xs ac ys : List Int) : roundT Tryz.prog (orcE10 N (dTurn N) (dKind N) (addTab 57 gRight emptyTab) plainL) noLoops 100 2 rd 16 lgLp lgT lgX (lgIn c xs ac s ys) =
    bif decide (c ≤ 37) then bif N.J.OK xs && (N.DK s && N.J.BY c) then bif N.LG s xs c then bif decide ((ys ++ [c]).length * 2 ≤ 70368744177664) then some (.normal, lgIn (wr .u8 (c + 1)) xs ac s (ys ++ [c]), []) else none else some (.normal, lgIn (wr .u8 (c + 1)) xs ac s ys, []) else none else some (.exit 0, lgOut xs ac ys, []) := by kernel_rfl
end Go.Proofs.YtojlmpcbplepcaaGreat

/- Chapter 10: Legal's contract. -/
namespace Go.Proofs.YtojlmpcbplepcaaGreat
open Go Go.Eng
theorem by38 {c : Nat} (h : c < 38) : byB (c : Int) = true := decide_eq_true (by omega)
theorem lg_loop (rd : Option Nat) (xs ac : List Int) (s : CD) (h : okL xs = true) (hd : dkB s = true) : ∀ x : Nat × List Int, (x.1 ≤ 38 ∧ x.2.length ≤ x.1) →
    SimC Tryz.prog 2 rd (.loop lgLp) (lgT.at (lgIn (x.1 : Int) xs ac s x.2)) (.exit 0) (lgX.at (lgOut xs ac (x.2 ++ (calls38.drop x.1).filter (lgI s xs)))) := by
  refine loop_of_rounds (C := orcE10 nC (dTurn nC) (dKind nC) (addTab 57 gRight emptyTab) plainL) (L := noLoops) (N := 100) (me := 16) (T := lgT) (T' := lgX) (orcE10_ok (dTurn_ok nC_ok) dKind_ok tabR_ok plainL_ok) mixed noLoops_ok (by kernel_rfl) (by kernel_rfl) (X := Nat × List Int)
    (fun x => lgIn (x.1 : Int) xs ac s x.2) (fun x => x.1 ≤ 38 ∧ x.2.length ≤ x.1) (fun x => 38 - x.1) (fun x => (.exit 0, lgOut xs ac (x.2 ++ (calls38.drop x.1).filter (lgI s xs)))) ?_
  rintro ⟨i, ys⟩ ⟨hi, hy⟩
  dsimp only at hi hy ⊢
  have key := lg_round nC rd (i : Int) s xs ac ys
  rcases Nat.lt_or_ge i 38 with hlt | hge
  · have hw : wr .u8 ((i : Int) + 1) = ((i + 1 : Nat) : Int) := by rw [wr_u8_id (by omega)]; omega
    rw [decide_eq_true (show (i : Int) ≤ 37 by omega), cond_true, show nC.J.OK xs = true from h, show nC.DK s = true from hd, show nC.J.BY = byB from rfl, by38 hlt, hw, decide_eq_true (show (ys ++ [(i : Int)]).length * 2 ≤ 70368744177664 by rw [List.length_append, List.length_singleton]; omega), show nC.LG s xs (i : Int) = lgI s xs i from rfl] at key
    rw [List.drop_eq_getElem_cons (show i < calls38.length from hlt), List.filter_cons, c38_get hlt]
    cases hb : lgI s xs (i : Int) with
    | true =>
      rw [hb] at key
      refine ⟨_, _, _, key, codesNil, .inl ⟨rfl, (i + 1, ys ++ [(i : Int)]), rfl, ⟨by dsimp only; omega, by dsimp only; rw [List.length_append, List.length_singleton]; omega⟩, by dsimp only; omega, ?_⟩⟩
      dsimp only
      rw [if_pos rfl, List.append_assoc]; rfl
    | false =>
      rw [hb] at key
      refine ⟨_, _, _, key, codesNil, .inl ⟨rfl, (i + 1, ys), rfl, ⟨by dsimp only; omega, by dsimp only; omega⟩, by dsimp only; omega, ?_⟩⟩
      dsimp only
      rw [if_neg (by simp)]
  · rw [decide_eq_false (show ¬ (i : Int) ≤ 37 by omega), cond_false] at key
    refine ⟨_, _, _, key, codesNil, .inr ⟨by simp, ?_⟩⟩
    rw [List.drop_eq_nil_of_le (by rw [c38_len]; omega), List.filter_nil, List.append_nil]
def lgsI (s : CD) (xs : List Int) : List Int := calls38.filter (lgI s xs)
noncomputable def lgTree (N : NC) (LS : CD → List Int → List Int) : List PV → Fin
  | .i c :: .l xs :: .l ac :: ps => match crsP ps with
    | some (s, [.l ys]) => .br (decide (c = 0 ∧ ys.length = 0) && (N.J.OK xs && N.DK s)) (.leaf (.exit 0) (lgX.at (lgOut xs ac (LS s xs)))) .no
    | _ => .no
  | _ => .no
noncomputable def lgL (N : NC) (LS : CD → List Int → List Int) : Loops := sums (fun n => match n with | 6 => some (lsumF 2 lgT lgLp (lgTree N LS)) | _ => none)
theorem lgL_ok : loopsOk Tryz.prog (lgL nC lgsI) := by
  intro n g hg
  simp only [lgL, sums] at hg
  split at hg
  · cases hg
    refine lsumF_ok (by kernel_rfl) (fun rd ps e1 st1 hq => ?_)
    unfold lgTree at hq
    split at hq
    · rename_i c xs ac ps
      split at hq
      · rename_i s ys hs
        rw [crsP_ok hs]
        simp only [Fin.pick] at hq
        cases hc : decide (c = 0 ∧ ys.length = 0) && (nC.J.OK xs && nC.DK s) with
        | false => rw [hc] at hq; cases hq
        | true =>
          rw [hc, cond_true] at hq
          simp only [Bool.and_eq_true, decide_eq_true_eq] at hc
          obtain ⟨⟨rfl, h1⟩, h2, h3⟩ := hc
          obtain rfl := List.eq_nil_of_length_eq_zero h1
          cases hq
          exact lg_loop rd xs ac s h2 h3 (0, []) ⟨Nat.zero_le _, Nat.le_refl _⟩
      · cases hq
    · cases hq
  · cases hg
def lstA : Tm := ⟨[some (.tuple [.gs 2, .int .i64])], [.rs false 1 (.ints .u8), .rs false 1 (.ints .i64), .grow false 5 1 (.ints .u8)], []⟩
theorem legal_eval18 (N : NC) (LS : CD → List Int → List Int) (xs ac : List Int) (s : CD) : evalFn Tryz.prog (orcE10 N (dTurn N) (dKind N) (addTab 57 gRight emptyTab) plainL) (lgL N LS) 100 16 Tryz.f16 [.agg (s.vs (.gs 0) (.gs 1))] (crsH false false xs ac) (ansT lstA 2) =
    bif N.J.OK xs then bif !decide (N.OP s xs ac = 0) then some ([.i (N.OP s xs ac), .l xs, .l ac, .l []], []) else cond (codesB [(lgLp, lgLp)]) (bif decide ((0 : Int) = 0 ∧ ([] : List Int).length = 0) && (N.J.OK xs && N.DK s) then some ([.i 0, .l xs, .l ac, .l (LS s xs)], []) else none) none else none := by kernel_rfl
def lgV (s : CD) (xs ac : List Int) : List Int := bif decide (opI s xs ac = 0) then lgsI s xs else []
theorem lgCd : codesB [(lgLp, lgLp)] = true := by rw [codesB_iff]; intro x hx; simp at hx; rw [hx]
theorem legal18_fn (n1 n2 : Bool) {s : CD} {xs ac : List Int} (h : okL xs = true) (hd : dkB s = true) : FnOK Tryz.prog 16 [.agg (s.vs (.gs 0) (.gs 1))] (crsH n1 n2 xs ac) (.tuple [.gs 2, .int .i64 (opI s xs ac)]) (crsH n1 n2 xs ac ++ [.grow false 5 1 (.ints .u8 (lgV s xs ac))]) := by
  have key := legal_eval18 nC lgsI xs ac s
  have e : (bif nC.J.OK xs then bif !decide (nC.OP s xs ac = 0) then some ([PV.i (nC.OP s xs ac), .l xs, .l ac, .l []], []) else cond (codesB [(lgLp, lgLp)]) (bif decide ((0 : Int) = 0 ∧ ([] : List Int).length = 0) && (nC.J.OK xs && nC.DK s) then some ([PV.i 0, .l xs, .l ac, .l (lgsI s xs)], []) else none) none else none) =
      some ([PV.i (opI s xs ac), .l xs, .l ac, .l (lgV s xs ac)], ([] : List (Code × Code))) := by
    rw [show nC.J.OK xs = true from h, show nC.DK s = true from hd, lgCd, decide_eq_true (show (0 : Int) = 0 ∧ ([] : List Int).length = 0 from ⟨rfl, rfl⟩), show nC.OP s xs ac = opI s xs ac from rfl]
    unfold lgV
    by_cases ho : opI s xs ac = 0
    · rw [ho]; rfl
    · rw [decide_eq_false ho]; rfl
  rw [e] at key
  exact fn_crs (fn_ans (T := lstA) (orcE10_ok (dTurn_ok nC_ok) dKind_ok tabR_ok plainL_ok) mixed Tryz.func16 lgL_ok (by kernel_rfl) key codesNil rfl)
end Go.Proofs.YtojlmpcbplepcaaGreat

/- Chapter 10: the contracts of package irregular as names: what the laws use. -/
namespace Go.Proofs.YtojlmpcbplepcaaGreat
open Go Go.Eng
structure NF where
  OK : List Int → Bool
  CK : List Int → Bool
  DK : CD → Bool
  BY : Int → Bool
  AL : List Int → Bool
  RG : CD → List Int → List Int → Bool
  OB : CD → List Int → List Int → Bool
  OE : CD → List Int → List Int → Int
  TV : CD → List Int → List Int → Int
  OP : CD → List Int → List Int → Int
  LV : CD → List Int → List Int → List Int
  KV : CD → List Int → List Int → Int → Int → Int
  KE : CD → List Int → List Int → Int → Int → Int
  DS : CD → List Int → List Int → Int → CD
  DX : CD → List Int → List Int → Int → Int
  DL : CD → List Int → List Int → Int → List Int
  DA : CD → List Int → List Int → Int → List Int
  AS : CD → List Int → List Int → Int → Int → CD
  AX : CD → List Int → List Int → Int → Int → Int
  ALs : CD → List Int → List Int → Int → Int → List Int
  AA : CD → List Int → List Int → Int → Int → List Int
  RS : CD → List Int → List Int → Int → Int → CD
  RX : CD → List Int → List Int → Int → Int → Int
  RL : CD → List Int → List Int → Int → Int → List Int
  RA : CD → List Int → List Int → Int → Int → List Int
def alB (xs : List Int) : Bool := decide (xs.length ≤ 99990)
def nF : NF := ⟨okL, lenOk, dkB, byB, alB, rgtI, ovrB, ovrE, tuV, opI, lgV, kdI, keI, doC, doX, doL, doK, fun s xs ac y x => (acI s xs ac y x).s, fun s xs ac y x => (acI s xs ac y x).e, fun s xs ac y x => (acI s xs ac y x).ys, fun s xs ac y x => (acI s xs ac y x).bc, rfC, rfX, rfL, rfK⟩
def crsV (s : CD) (ys bc : List Int) (e : Int) : V × List Blk := (.tuple [.agg (s.vs (.gs 2) (.gs 3)), .int .i64 e], crsNb ys bc)
def fOver (N : NF) : CH
  | [.agg l], [.rs _ 1 (.ints .u8 xs), .rs _ 1 (.ints .i64 ac)] => match ofCrs l with
    | some (s, .gs 0, .gs 1) => some (N.OK xs, .tuple [.bool (N.OB s xs ac), .int .i64 (N.OE s xs ac)], [])
    | _ => none
  | _, _ => none
def fRight (N : NF) : CH
  | [.agg l], [.rs _ 1 (.ints .u8 xs), .rs _ 1 (.ints .i64 ac)] => match ofCrs l with
    | some (s, .gs 0, .gs 1) => some (N.OK xs, .bool (N.RG s xs ac), [])
    | _ => none
  | _, _ => none
def fTurn (N : NF) : CH
  | [.agg l], [.rs _ 1 (.ints .u8 xs), .rs _ 1 (.ints .i64 ac)] => match ofCrs l with
    | some (s, .gs 0, .gs 1) => some (N.OK xs, .tuple [.int .u8 (N.TV s xs ac), .int .i64 (N.OP s xs ac)], [])
    | _ => none
  | _, _ => none
def fLegal (N : NF) : CH
  | [.agg l], [.rs _ 1 (.ints .u8 xs), .rs _ 1 (.ints .i64 ac)] => match ofCrs l with
    | some (s, .gs 0, .gs 1) => some (N.OK xs && N.DK s, .tuple [.gs 2, .int .i64 (N.OP s xs ac)], [.grow false 5 1 (.ints .u8 (N.LV s xs ac))])
    | _ => none
  | _, _ => none
def fDo (N : NF) : CH
  | [.agg l, .int .u8 x], [.rs _ 1 (.ints .u8 xs), .rs _ 1 (.ints .i64 ac)] => match ofCrs l with
    | some (s, .gs 0, .gs 1) => some (N.OK xs && (N.CK ac && (N.DK s && N.BY x)), crsV (N.DS s xs ac x) (N.DL s xs ac x) (N.DA s xs ac x) (N.DX s xs ac x))
    | _ => none
  | _, _ => none
def fKind (N : NF) : CH
  | [.agg l, .int .u8 y, .int .u8 x], [.rs _ 1 (.ints .u8 xs), .rs _ 1 (.ints .i64 ac)] => match ofCrs l with
    | some (s, .gs 0, .gs 1) => some (N.OK xs && (N.DK s && N.BY x), .tuple [.int .u8 (N.KV s xs ac y x), .int .i64 (N.KE s xs ac y x)], [])
    | _ => none
  | _, _ => none
def fAccept (N : NF) : CH
  | [.agg l, .int .u8 y, .int .u8 x], [.rs _ 1 (.ints .u8 xs), .rs _ 1 (.ints .i64 ac)] => match ofCrs l with
    | some (s, .gs 0, .gs 1) => some (N.OK xs && (N.CK ac && (N.DK s && (N.BY x && (N.BY y && N.AL xs)))), crsV (N.AS s xs ac y x) (N.ALs s xs ac y x) (N.AA s xs ac y x) (N.AX s xs ac y x))
    | _ => none
  | _, _ => none
def fRefuse (N : NF) : CH
  | [.agg l, .int .u8 y, .int .u8 x], [.rs _ 1 (.ints .u8 xs), .rs _ 1 (.ints .i64 ac)] => match ofCrs l with
    | some (s, .gs 0, .gs 1) => some (N.OK xs && (N.CK ac && (N.DK s && (N.BY x && N.BY y))), crsV (N.RS s xs ac y x) (N.RL s xs ac y x) (N.RA s xs ac y x) (N.RX s xs ac y x))
    | _ => none
  | _, _ => none
def hTabF (N : NF) (T : HTab) : HTab := addH 12 (fOver N) (addH 24 (fRight N) (addH 14 (fTurn N) (addH 16 (fLegal N) (addH 28 (fDo N) (addH 18 (fKind N) (addH 32 (fAccept N) (addH 36 (fRefuse N) T)))))))
theorem fOver_ok : cOk 12 (fOver nF) := by
  intro args hp c v nb hq hc
  unfold fOver at hq
  split at hq
  · split at hq
    · rename_i s hs
      cases hq
      rw [ofCrs_ok hs, List.append_nil]
      exact ⟨.of Tryz.func12 (by kernel_rfl), over16_fn _ _ hc⟩
    · cases hq
  · cases hq
theorem fRight_ok : cOk 24 (fRight nF) := by
  intro args hp c v nb hq hc
  unfold fRight at hq
  split at hq
  · split at hq
    · rename_i s hs
      cases hq
      rw [ofCrs_ok hs, List.append_nil]
      exact ⟨.of Tryz.func24 (by kernel_rfl), right17_fn _ _ hc⟩
    · cases hq
  · cases hq
theorem fTurn_ok : cOk 14 (fTurn nF) := by
  intro args hp c v nb hq hc
  unfold fTurn at hq
  split at hq
  · split at hq
    · rename_i s hs
      cases hq
      rw [ofCrs_ok hs, List.append_nil]
      exact ⟨.of Tryz.func14 (by kernel_rfl), turn14_fn _ _ hc⟩
    · cases hq
  · cases hq
theorem fLegal_ok : cOk 16 (fLegal nF) := by
  intro args hp c v nb hq hc
  unfold fLegal at hq
  split at hq
  · split at hq
    · rename_i s hs
      cases hq
      simp only [Bool.and_eq_true] at hc
      rw [ofCrs_ok hs]
      exact ⟨.of Tryz.func16 (by kernel_rfl), legal18_fn _ _ hc.1 hc.2⟩
    · cases hq
  · cases hq
theorem fDo_ok : cOk 28 (fDo nF) := by
  intro args hp c v nb hq hc
  unfold fDo at hq
  split at hq
  · split at hq
    · rename_i s hs
      cases hq
      simp only [Bool.and_eq_true] at hc
      rw [ofCrs_ok hs]
      exact ⟨.of Tryz.func28 (by kernel_rfl), do15_fn _ _ hc.1 hc.2.1 hc.2.2.1 hc.2.2.2⟩
    · cases hq
  · cases hq
theorem fKind_ok : cOk 18 (fKind nF) := by
  intro args hp c v nb hq hc
  unfold fKind at hq
  split at hq
  · split at hq
    · rename_i s hs
      cases hq
      simp only [Bool.and_eq_true] at hc
      rw [ofCrs_ok hs, List.append_nil]
      exact ⟨.of Tryz.func18 (by kernel_rfl), kind11_fn _ _ _ hc.1 hc.2.1 hc.2.2⟩
    · cases hq
  · cases hq
theorem fAccept_ok : cOk 32 (fAccept nF) := by
  intro args hp c v nb hq hc
  unfold fAccept at hq
  split at hq
  · split at hq
    · rename_i s hs
      cases hq
      simp only [Bool.and_eq_true] at hc
      obtain ⟨h1, h2, h3, h4, h5, h6⟩ := hc
      rw [ofCrs_ok hs]
      exact ⟨.of Tryz.func32 (by kernel_rfl), accept12_fn _ _ h1 h2 h3 h4 (of_decide_eq_true h5).1 (of_decide_eq_true h6)⟩
    · cases hq
  · cases hq
theorem fRefuse_ok : cOk 36 (fRefuse nF) := by
  intro args hp c v nb hq hc
  unfold fRefuse at hq
  split at hq
  · split at hq
    · rename_i s hs
      cases hq
      simp only [Bool.and_eq_true] at hc
      obtain ⟨h1, h2, h3, h4, h5⟩ := hc
      rw [ofCrs_ok hs]
      exact ⟨.of Tryz.func36 (by kernel_rfl), refuse13_fn _ _ h1 h2 h3 h4 (of_decide_eq_true h5).1⟩
    · cases hq
  · cases hq
theorem hTabF_ok {T : HTab} (hT : HTabOk Tryz.prog T) : HTabOk Tryz.prog (hTabF nF T) :=
  addH_ok fOver_ok (addH_ok fRight_ok (addH_ok fTurn_ok (addH_ok fLegal_ok (addH_ok fDo_ok (addH_ok fKind_ok (addH_ok fAccept_ok (addH_ok fRefuse_ok hT)))))))
def domF : FuncId → Bool := fun f => (Nat.beq f 18 || (Nat.beq f 32 || (Nat.beq f 36 || (Nat.beq f 14 || (Nat.beq f 28 || (Nat.beq f 12 || (Nat.beq f 24 || (Nat.beq f 16))))))))
noncomputable abbrev orcF (N : NF) (T : PTab) (LL : FuncId → Loops) : Oracle := inl Tryz.prog ftab T LL 100 never domF (hOrcX nrC (hTabF N emptyH)) 20
theorem orcF_ok {T : PTab} (hT : PTabOk Tryz.prog T) {LL : FuncId → Loops} (hL : ∀ f, loopsOk Tryz.prog (LL f)) : OracleOk Tryz.prog (orcF nF T LL) := inl_ok (hOrcX_ok (hTabF_ok emptyH_ok)) ftab_ok hT hL mixed 20
theorem awake_run : evalFn Tryz.prog (orcF nF emptyTab plainL) noLoops 100 8 Tryz.f8 [] [] (fun v _ => some v) = some (.bool true) := by kernel_rfl
theorem awake_p : FnPure Tryz.prog 8 [] (.bool true) := fnPure_of_eval (orcF_ok emptyTab_ok plainL_ok) mixed Tryz.func8 (by kernel_rfl) noLoops_ok awake_run rfl rfl
end Go.Proofs.YtojlmpcbplepcaaGreat

/- Chapter 10: step: its formula. -/
namespace Go.Proofs.YtojlmpcbplepcaaGreat
open Go Go.Eng
def ansB (s : CD) (b : Bool) (xs ac ys bc : List Int) : List PV := s.pv [.b b, .l xs, .l ac, .l ys, .l bc]
noncomputable def stR (N : NF) (s : CD) (xs ac : List Int) (y v : Int) : AN := bif N.OK xs && (N.CK ac && (N.DK s && (N.BY v && N.BY y))) then some (ansB (N.RS s xs ac y v) (decide (N.RX s xs ac y v = 0)) xs ac (N.RL s xs ac y v) (N.RA s xs ac y v), []) else none
noncomputable def stE (N : NF) (s : CD) (xs ac : List Int) (w y v : Int) : AN := bif N.OK xs && (N.DK s && N.BY v) then bif !decide (N.KE s xs ac y v = 0) then none else bif decide (N.KV s xs ac y v = 0) then
    bif N.OK xs && (N.CK ac && (N.DK s && N.BY v)) then bif decide (N.DX s xs ac v = 0) then some (ansB (N.DS s xs ac v) true xs ac (N.DL s xs ac v) (N.DA s xs ac v), []) else none else none else
  bif N.OK xs && (N.CK ac && (N.DK s && (N.BY v && (N.BY y && N.AL xs)))) then bif decide (w.tmod 3 = 0) then bif decide (N.AX s xs ac y v = 0) then some (ansB (N.AS s xs ac y v) true xs ac (N.ALs s xs ac y v) (N.AA s xs ac y v), []) else stR N s xs ac y v else stR N s xs ac y v else none else none
noncomputable def stT (N : NF) (s : CD) (xs ac : List Int) (x b w : Int) (t : Int) : AN := bif N.OK xs && N.DK s then bif decide (w.tmod 3 = 2) then bif decide (N.OP s xs ac = 0) then bif decide (0 < Int.ofNat (N.LV s xs ac).length) then bif decide (Int.ofNat (N.LV s xs ac).length = 0) then none else
    bif decide (0 ≤ (wr .i64 x).tmod (Int.ofNat (N.LV s xs ac).length) ∧ (wr .i64 x).tmod (Int.ofNat (N.LV s xs ac).length) < Int.ofNat (N.LV s xs ac).length) then atN (N.LV s xs ac) ((wr .i64 x).tmod (Int.ofNat (N.LV s xs ac).length)).toNat fun v => stE N s xs ac w t v else none else
    stE N s xs ac w ((wr .u8 (t + (b.tmod 6).tmod 4)).tmod 4) (x.tmod 38) else stE N s xs ac w ((wr .u8 (t + (b.tmod 6).tmod 4)).tmod 4) (x.tmod 38) else stE N s xs ac w ((wr .u8 (t + (b.tmod 6).tmod 4)).tmod 4) (x.tmod 38) else none
end Go.Proofs.YtojlmpcbplepcaaGreat
