/- Texts merged: Ct3, Ld. -/
import Derived.Test.YtojlmpcbplepcaaCt2
/- Chapter 10: Contract: its oracle. -/
namespace Go.Proofs.Ytojlmpcbplepcaa
open Go Go.Eng
def hTabT (N : NC) (M : NM) : HTab := addH 48 (dOpen N) (hTabM M emptyH)
def domT : FuncId → Bool := fun f => Nat.beq f 48 || Nat.beq f 54
noncomputable abbrev orcT (N : NC) (M : NM) (T : PTab) (LL : FuncId → Loops) : Oracle := inl Try.prog ftab T LL 100 never domT (hOrcX nrC (hTabT N M)) 20
theorem orcT_ok {T : PTab} (hT : PTabOk Try.prog T) {LL : FuncId → Loops} (hL : ∀ f, loopsOk Try.prog (LL f)) : OracleOk Try.prog (orcT nC nM T LL) := inl_ok (hOrcX_ok (addH_ok dOpen_ok (hTabM_ok emptyH_ok))) ftab_ok hT hL mixed 20
def cnV (q : Q4) (e : Int) : V := .tuple [.agg [.int .u8 q.a, .int .u8 q.b, .int .u8 q.c, .int .u8 q.d], .int .i64 e]
def cnQ (X : NX) (d z : Int) (xs : List Int) (v : Int) : Q4 := fdQ d ⟨lvZ v, dnZ v, X.MX (List.drop (wr .i64 (z + 1)).toNat xs) 0, 0⟩ (X.FD xs (dnZ v) z (z.tmod 2))
theorem contract_eval (N : NC) (M : NM) (X : NX) (MK : Int → Int → Int) (xs ac : List Int) (s : CD) : evalFn Try.prog (orcT N M (tabC MK) plainL) (ctL X) 100 23 Try.f23 [.agg (s.vs (.gs 0) (.gs 1))] (crsH false false xs ac) (fun v _ => some v) =
    bif N.J.OK xs then bif decide (N.OP s xs ac = 100) then some (cnV q0 100) else bif decide (N.OP s xs ac = 0) then some (cnV q0 102) else bif M.KS xs then bif !M.LB xs then some (cnV q0 0) else
      bif decide (0 ≤ M.LI xs ∧ M.LI xs < Int.ofNat xs.length) then atN xs (M.LI xs).toNat fun v => bif decide (0 ≤ wr .i64 (M.LI xs + 1) ∧ wr .i64 (M.LI xs + 1) ≤ Int.ofNat xs.length ∧ Int.ofNat xs.length ≤ Int.ofNat xs.length) then
        cond (codesB [(caLp, caLp)]) (bif decide ((0 : Int) = 0 ∧ Int.ofNat ((Int.ofNat xs.length).toNat - (wr .i64 (M.LI xs + 1)).toNat) = Int.ofNat ((Int.ofNat xs.length).toNat - (wr .i64 (M.LI xs + 1)).toNat) ∧ (wr .i64 (M.LI xs + 1)).toNat + ((Int.ofNat xs.length).toNat - (wr .i64 (M.LI xs + 1)).toNat) = xs.length) && X.OK xs then
          cond (codesB [(cbLp, cbLp)]) (bif decide (0 ≤ M.LI xs ∧ M.LI xs < Int.ofNat xs.length ∧ 0 ≤ (M.LI xs).tmod 2 ∧ (M.LI xs).tmod 2 ≤ M.LI xs + 2) && X.OK xs then some (cnV (cnQ X s.d (M.LI xs) xs v) 0) else none) none else none) none else none else none else none else none := by kernel_rfl
/-- The contract, plainly. -/
def conQ (s : CD) (xs : List Int) : Q4 := bif hasB xs then fdQ s.d ⟨lvZ (lbI xs), dnZ (lbI xs), mxL (xs.drop ((lastI xs).toNat + 1)) 0, 0⟩ (fdB xs (dnZ (lbI xs)) (lastI xs).toNat ((lastI xs).toNat + 1) ((lastI xs).toNat % 2)) else q0
def conE (s : CD) (xs ac : List Int) : Int := bif decide (opI s xs ac = 100) then 100 else bif decide (opI s xs ac = 0) then 102 else 0
def conI (s : CD) (xs ac : List Int) : Q4 := bif decide (conE s xs ac = 0) then conQ s xs else q0
theorem caCd : codesB [(caLp, caLp)] = true := by rw [codesB_iff]; intro x hx; simp at hx; rw [hx]
theorem cbCd : codesB [(cbLp, cbLp)] = true := by rw [codesB_iff]; intro x hx; simp at hx; rw [hx]
theorem contract23_fn (n1 n2 : Bool) {s : CD} {xs ac : List Int} (h : okL xs = true) : FnOK Try.prog 23 [.agg (s.vs (.gs 0) (.gs 1))] (crsH n1 n2 xs ac) (cnV (conI s xs ac) (conE s xs ac)) (crsH n1 n2 xs ac) := by
  obtain ⟨hl, hu⟩ := okL_iff.1 h
  have key := contract_eval nC nM nX mkI xs ac s
  have hr := lastI_range xs
  have hv : evalFn Try.prog (orcT nC nM (tabC mkI) plainL) (ctL nX) 100 23 Try.f23 [.agg (s.vs (.gs 0) (.gs 1))] (crsH false false xs ac) (fun v _ => some v) = some (cnV (conI s xs ac) (conE s xs ac)) := by
    rw [key, show nC.J.OK xs = true from h, show nC.OP s xs ac = opI s xs ac from rfl, show nM.KS xs = true from decide_eq_true (show xs.length ≤ 9223372036854775806 by omega), show nM.LB xs = hasB xs from rfl, show nM.LI xs = lastI xs from rfl, show nX.OK xs = true from decide_eq_true hl, caCd, cbCd]
    unfold conI conE
    by_cases h1 : opI s xs ac = 100
    · rw [decide_eq_true h1]; rfl
    · rw [decide_eq_false h1]
      by_cases h2 : opI s xs ac = 0
      · rw [decide_eq_true h2]; rfl
      · rw [decide_eq_false h2]
        unfold conQ
        cases hb : hasB xs with
        | false => rfl
        | true =>
          have hz := hr.2.2.1 hb
          obtain ⟨z, ez⟩ : ∃ z : Nat, lastI xs = z := ⟨(lastI xs).toNat, by omega⟩
          have z1 : Int.ofNat xs.length = (xs.length : Int) := rfl
          have elb : xs.getD z 0 = lbI xs := by unfold lbI; rw [hb, ez]; rfl
          rw [ez] at hz
          have ew : wr .i64 ((z : Int) + 1) = ((z + 1 : Nat) : Int) := by rw [wr64 (by omega) (by omega)]; omega
          have em : (z : Int).tmod 2 = ((z % 2 : Nat) : Int) := by rw [Int.tmod_eq_emod_of_nonneg (by omega)]; omega
          rw [ez, z1, ew, em, decide_eq_true (show 0 ≤ (z : Int) ∧ (z : Int) < (xs.length : Int) by omega), show ((z : Int)).toNat = z from rfl, atN_get (by omega), elb, decide_eq_true (show 0 ≤ ((z + 1 : Nat) : Int) ∧ ((z + 1 : Nat) : Int) ≤ (xs.length : Int) ∧ (xs.length : Int) ≤ (xs.length : Int) by omega)]
          have hz2 : z + 1 + (xs.length - (z + 1)) = xs.length := by omega
          simp only [Bool.not_true, cond_false, cond_true, Int.toNat_natCast, hz2, and_self, decide_true, Bool.and_self]
          rw [decide_eq_true (show 0 ≤ (z : Int) ∧ (z : Int) < (xs.length : Int) ∧ 0 ≤ ((z % 2 : Nat) : Int) ∧ ((z % 2 : Nat) : Int) ≤ (z : Int) + 2 by omega)]
          simp only [Bool.and_self, cond_true]
          unfold cnQ
          rw [ew, em]
          rfl
  obtain ⟨v1, h1, hk1, hok⟩ := evalFn_ok (orcT_ok tabC_ok plainL_ok) mixed Try.func23 ctL_ok hv
  cases hk1
  exact plain_crs (hok.plain rfl crs_ro)
end Go.Proofs.Ytojlmpcbplepcaa

/- Chapter 10: Leader, Lead. -/
namespace Go.Proofs.Ytojlmpcbplepcaa
open Go Go.Eng
def ldN (a b c d : Int) : Bool := decide (7 < a) || (decide (4 < b) || (decide (2 < c) || decide (3 < d)))
def ldE (a b c d : Int) : Int := bif decide (a = 0) then 6 else bif ldN a b c d then 2 else 0
def ldV (a b c d : Int) : Int := bif decide (a = 0) || ldN a b c d then 0 else (d + 1).tmod 4
def ctA (a b c d : Int) : V := .agg [.int .u8 a, .int .u8 b, .int .u8 c, .int .u8 d]
noncomputable def ldF (v e : Int) : Option V := some (.tuple [.int .u8 v, .int .i64 e])
noncomputable def ldX (a b c d z : Int) : Option V := bif decide (a = 0) then ldF 0 6 else bif decide (7 < a) then ldF 0 2 else bif decide (4 < b) then ldF 0 2 else bif decide (2 < c) then ldF 0 2 else bif decide (3 < d) then ldF 0 2 else ldF z 0
theorem leader_eval (a b c d : Int) : evalP emptyTab 57 Try.f57 [ctA a b c d] = ldX a b c d ((wr .u8 (d + 1)).tmod 4) := by kernel_rfl
theorem leader_p (a b c : Int) {d : Int} (h0 : 0 ≤ d) : FnPure Try.prog 57 [ctA a b c d] (.tuple [.int .u8 (ldV a b c d), .int .i64 (ldE a b c d)]) := by
  refine pure_at emptyTab_ok Try.func57 (by kernel_rfl) ?_ rfl rfl
  rw [leader_eval]
  unfold ldX ldV ldE ldN ldF
  by_cases hd : 3 < d
  · rw [decide_eq_true hd]
    cases decide (a = 0) <;> cases decide (7 < a) <;> cases decide (4 < b) <;> cases decide (2 < c) <;> rfl
  · rw [decide_eq_false hd, wr_u8_id (by omega)]
    cases decide (a = 0) <;> cases decide (7 < a) <;> cases decide (4 < b) <;> cases decide (2 < c) <;> rfl
structure NE where
  OK : List Int → Bool
  CQ : CD → List Int → List Int → Q4
  CE : CD → List Int → List Int → Int
  LV : Q4 → Int
  LE : Q4 → Int
def nE : NE := ⟨okL, conI, conE, fun q => ldV q.a q.b q.c q.d, fun q => ldE q.a q.b q.c q.d⟩
def dCon (N : NE) : CH
  | [.agg l], [.rs _ 1 (.ints .u8 xs), .rs _ 1 (.ints .i64 ac)] => match ofCrs l with
    | some (s, .gs 0, .gs 1) => some (N.OK xs, cnV (N.CQ s xs ac) (N.CE s xs ac), [])
    | _ => none
  | _, _ => none
theorem dCon_ok : cOk 23 (dCon nE) := by
  intro args hp c v nb hq hc
  unfold dCon at hq
  split at hq
  · split at hq
    · rename_i s hs
      cases hq
      rw [ofCrs_ok hs, List.append_nil]
      exact ⟨.of Try.func23 (by kernel_rfl), contract23_fn _ _ hc⟩
    · cases hq
  · cases hq
def gLead (N : NE) : List V → Option (Bool × V)
  | [.agg [.int .u8 a, .int .u8 b, .int .u8 c, .int .u8 d]] => some (decide (0 ≤ d), .tuple [.int .u8 (N.LV ⟨a, b, c, d⟩), .int .i64 (N.LE ⟨a, b, c, d⟩)])
  | _ => none
theorem tabLd_ok : PTabOk Try.prog (addTab 57 (gLead nE) emptyTab) := by
  refine addTab_ok ?_ emptyTab_ok
  intro args c v h hc
  unfold gLead at h
  split at h
  · cases h; exact leader_p _ _ _ (of_decide_eq_true hc)
  · cases h
def dom23 : FuncId → Bool := fun f => Nat.beq f 23
noncomputable abbrev orcLd (N : NE) : Oracle := inl Try.prog ftab (addTab 57 (gLead N) emptyTab) plainL 100 never dom23 (hOrcX nrC (addH 23 (dCon N) emptyH)) 20
theorem orcLd_ok : OracleOk Try.prog (orcLd nE) := inl_ok (hOrcX_ok (addH_ok dCon_ok emptyH_ok)) ftab_ok tabLd_ok plainL_ok mixed 20
noncomputable def ldC (i : Int) (f : Q4) : Option V := bif decide (i = 0) then ldF f.a 0 else bif decide (i = 1) then ldF f.b 0 else bif decide (i = 2) then ldF f.c 0 else bif decide (i = 3) then ldF f.d 0 else none
theorem lead_eval (N : NE) (xs ac : List Int) (s : CD) : evalFn Try.prog (orcLd N) noLoops 100 26 Try.f26 [.agg (s.vs (.gs 0) (.gs 1))] (crsH false false xs ac) (fun v _ => some v) =
    bif N.OK xs then bif !decide (N.CE s xs ac = 0) then ldF 0 (N.CE s xs ac) else bif decide (0 ≤ (N.CQ s xs ac).d) then bif !decide (N.LE (N.CQ s xs ac) = 0) then ldF 0 (N.LE (N.CQ s xs ac)) else ldC (N.LV (N.CQ s xs ac)) s.f else none else none := by kernel_rfl
def leadE (s : CD) (xs ac : List Int) : Int := bif !decide (conE s xs ac = 0) then conE s xs ac else nE.LE (conI s xs ac)
def leadV (s : CD) (xs ac : List Int) : Int := bif decide (leadE s xs ac = 0) then s.f.at (nE.LV (conI s xs ac)).toNat else 0
theorem conI_d (s : CD) (xs ac : List Int) : 0 ≤ (conI s xs ac).d := by
  unfold conI
  cases decide (conE s xs ac = 0) with
  | false => exact Int.le_refl _
  | true =>
    simp only [cond_true]
    unfold conQ
    cases hasB xs with
    | false => exact Int.le_refl _
    | true =>
      simp only [cond_true]
      unfold fdQ
      split
      · exact Int.le_refl _
      · exact (mk_range _ _).1
theorem lead26_fn (n1 n2 : Bool) {s : CD} {xs ac : List Int} (h : okL xs = true) : FnOK Try.prog 26 [.agg (s.vs (.gs 0) (.gs 1))] (crsH n1 n2 xs ac) (.tuple [.int .u8 (leadV s xs ac), .int .i64 (leadE s xs ac)]) (crsH n1 n2 xs ac) := by
  have key := lead_eval nE xs ac s
  have hd := conI_d s xs ac
  have hv : evalFn Try.prog (orcLd nE) noLoops 100 26 Try.f26 [.agg (s.vs (.gs 0) (.gs 1))] (crsH false false xs ac) (fun v _ => some v) = some (.tuple [.int .u8 (leadV s xs ac), .int .i64 (leadE s xs ac)]) := by
    rw [key, show nE.OK xs = true from h, show nE.CE s xs ac = conE s xs ac from rfl, show nE.CQ s xs ac = conI s xs ac from rfl, decide_eq_true hd]
    unfold leadV leadE ldF
    by_cases h1 : conE s xs ac = 0
    · rw [decide_eq_true h1]
      by_cases h2 : nE.LE (conI s xs ac) = 0
      · rw [decide_eq_true h2]
        simp only [Bool.not_true, cond_false, cond_true]
        rw [decide_eq_true h2, h2]
        have hr : 0 ≤ nE.LV (conI s xs ac) ∧ nE.LV (conI s xs ac) ≤ 3 := by
          show 0 ≤ ldV _ _ _ _ ∧ ldV _ _ _ _ ≤ 3
          unfold ldV
          cases (decide ((conI s xs ac).a = 0) || ldN (conI s xs ac).a (conI s xs ac).b (conI s xs ac).c (conI s xs ac).d) with
          | true => exact ⟨Int.le_refl _, by show (0 : Int) ≤ 3; omega⟩
          | false => rw [cond_false, Int.tmod_eq_emod_of_nonneg (by omega)]; omega
        generalize nE.LV (conI s xs ac) = i at *
        unfold ldC ldF
        have : i = 0 ∨ i = 1 ∨ i = 2 ∨ i = 3 := by omega
        rcases this with rfl | rfl | rfl | rfl <;> rfl
      · rw [decide_eq_false h2]
        simp only [Bool.not_true, Bool.not_false, cond_false, cond_true]
        rw [decide_eq_false h2]; rfl
    · rw [decide_eq_false h1]
      simp only [Bool.not_false, cond_true]
      rw [decide_eq_false h1]; rfl
  obtain ⟨v1, h1, hk1, hok⟩ := evalFn_ok orcLd_ok mixed Try.func26 noLoops_ok hv
  cases hk1
  exact plain_crs (hok.plain rfl crs_ro)
end Go.Proofs.Ytojlmpcbplepcaa
