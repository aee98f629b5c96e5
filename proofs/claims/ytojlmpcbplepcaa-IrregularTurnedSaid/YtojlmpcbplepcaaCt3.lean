/- Chapter 10: Contract: its oracle. -/
import Derived.Test.YtojlmpcbplepcaaCt2
namespace Go.Proofs.Ytojlmpcbplepcaa
open Go Go.Eng
def hTabT (N : NC) (M : NM) : HTab := addH 48 (dOpen N) (hTabM M emptyH)
def domT : FuncId → Bool := fun f => Nat.beq f 48 || Nat.beq f 54
noncomputable abbrev orcT (N : NC) (M : NM) (T : PTab) (LL : FuncId → Loops) : Oracle := inl Try.prog ftab T LL 100 never domT (hOrcX nrC (hTabT N M)) 20
theorem orcT_ok {T : PTab} (hT : PTabOk Try.prog T) {LL : FuncId → Loops} (hL : ∀ f, loopsOk Try.prog (LL f)) : OracleOk Try.prog (orcT nC nM T LL) := inl_ok (hOrcX_ok (addH_ok dOpen_ok (hTabM_ok emptyH_ok))) ftab_ok hT hL mixed 20
def cnV (q : Q4) (e : Int) : V := .tuple [.agg [.int .u8 q.a, .int .u8 q.b, .int .u8 q.c, .int .u8 q.d], .int .i64 e]
def cnQ (X : NX) (d z : Int) (xs : List Int) (v : Int) : Q4 := fdQ d ⟨lvZ v, dnZ v, X.MX (List.drop (wr .i64 (z + 1)).toNat xs) 0, 0⟩ (X.FD xs (dnZ v) z (z.tmod 2))
theorem contract_eval (N : NC) (M : NM) (X : NX) (MK : Int → Int → Int) (xs ac : List Int) (s : CD) : evalFn Try.prog (orcT N M (tabC MK) plainL) (ctL X) 100 23 Try.f23 [.agg (s.vs (.gs 0) (.gs 1))] (crsH false false xs ac) (fun v _ => some v) =
    bif N.J.OK xs then bif decide (N.OP s xs ac = 100) then some (cnV q0 100) else bif decide (N.OP s xs ac = 0) then some (cnV q0 102) else bif M.KS xs then bif !M.LB xs then some (cnV q0 0) else
      bif decide (0 ≤ M.LI xs ∧ M.LI xs < Int.ofNat xs.length) then atN xs (M.LI xs).toNat fun v => bif decide (0 ≤ wr .i64 (M.LI xs + 1) ∧ wr .i64 (M.LI xs + 1) ≤ Int.ofNat xs.length ∧ Int.ofNat xs.length ≤ Int.ofNat xs.length) then
        cond (codesB [(caLp, caLp)]) (bif decide ((0 : Int) = 0 ∧ Int.ofNat ((Int.ofNat xs.length).toNat - (wr .i64 (M.LI xs + 1)).toNat) = Int.ofNat ((Int.ofNat xs.length).toNat - (wr .i64 (M.LI xs + 1)).toNat) ∧ (wr .i64 (M.LI xs + 1)).toNat + ((Int.ofNat xs.length).toNat - (wr .i64 (M.LI xs + 1)).toNat) = xs.length) && X.OK xs then
          cond (codesB [(cbLp, cbLp)]) (bif decide (0 ≤ M.LI xs ∧ M.LI xs < Int.ofNat xs.length ∧ 0 ≤ (M.LI xs).tmod 2 ∧ (M.LI xs).tmod 2 ≤ M.LI xs + 2) && X.OK xs then some (cnV (cnQ X s.d (M.LI xs) xs v) 0) else none) none else none) none else none else none else none else none := by kernel_rfl
/-- The contract, plainly. -/
def conQ (s : CD) (xs : List Int) : Q4 := bif hasB xs then fdQ s.d ⟨lvZ (lbI xs), dnZ (lbI xs), mxL (xs.drop ((lastI xs).toNat + 1)) 0, 0⟩ (fdB xs (dnZ (lbI xs)) (lastI xs).toNat ((lastI xs).toNat + 1) ((lastI xs).toNat % 2)) else q0
def conE (s : CD) (xs ac : List Int) : Int := bif decide (opI s xs ac = 100) then 100 else bif decide (opI s xs ac = 0) then 102 else 0
def conI (s : CD) (xs ac : List Int) : Q4 := bif decide (conE s xs ac = 0) then conQ s xs else q0
theorem caCd : codesB [(caLp, caLp)] = true := by rw [codesB_iff]; intro x hx; simp at hx; rw [hx]
theorem cbCd : codesB [(cbLp, cbLp)] = true := by rw [codesB_iff]; intro x hx; simp at hx; rw [hx]
theorem contract23_fn (n1 n2 : Bool) {s : CD} {xs ac : List Int} (h : okL xs = true) : FnOK Try.prog 23 [.agg (s.vs (.gs 0) (.gs 1))] (crsH n1 n2 xs ac) (cnV (conI s xs ac) (conE s xs ac)) (crsH n1 n2 xs ac) := by
  obtain ⟨hl, hu⟩ := okL_iff.1 h
  have key := contract_eval nC nM nX mkI xs ac s
  have hr := lastI_range xs
  have hv : evalFn Try.prog (orcT nC nM (tabC mkI) plainL) (ctL nX) 100 23 Try.f23 [.agg (s.vs (.gs 0) (.gs 1))] (crsH false false xs ac) (fun v _ => some v) = some (cnV (conI s xs ac) (conE s xs ac)) := by
    rw [key, show nC.J.OK xs = true from h, show nC.OP s xs ac = opI s xs ac from rfl, show nM.KS xs = true from decide_eq_true (show xs.length ≤ 9223372036854775806 by omega), show nM.LB xs = hasB xs from rfl, show nM.LI xs = lastI xs from rfl, show nX.OK xs = true from decide_eq_true hl, caCd, cbCd]
    unfold conI conE
    by_cases h1 : opI s xs ac = 100
    · rw [decide_eq_true h1]; rfl
    · rw [decide_eq_false h1]
      by_cases h2 : opI s xs ac = 0
      · rw [decide_eq_true h2]; rfl
      · rw [decide_eq_false h2]
        unfold conQ
        cases hb : hasB xs with
        | false => rfl
        | true =>
          have hz := hr.2.2.1 hb
          obtain ⟨z, ez⟩ : ∃ z : Nat, lastI xs = z := ⟨(lastI xs).toNat, by omega⟩
          have z1 : Int.ofNat xs.length = (xs.length : Int) := rfl
          have elb : xs.getD z 0 = lbI xs := by unfold lbI; rw [hb, ez]; rfl
          rw [ez] at hz
          have ew : wr .i64 ((z : Int) + 1) = ((z + 1 : Nat) : Int) := by rw [wr64 (by omega) (by omega)]; omega
          have em : (z : Int).tmod 2 = ((z % 2 : Nat) : Int) := by rw [Int.tmod_eq_emod_of_nonneg (by omega)]; omega
          rw [ez, z1, ew, em, decide_eq_true (show 0 ≤ (z : Int) ∧ (z : Int) < (xs.length : Int) by omega), show ((z : Int)).toNat = z from rfl, atN_get (by omega), elb, decide_eq_true (show 0 ≤ ((z + 1 : Nat) : Int) ∧ ((z + 1 : Nat) : Int) ≤ (xs.length : Int) ∧ (xs.length : Int) ≤ (xs.length : Int) by omega)]
          have hz2 : z + 1 + (xs.length - (z + 1)) = xs.length := by omega
          simp only [Bool.not_true, cond_false, cond_true, Int.toNat_natCast, hz2, and_self, decide_true, Bool.and_self]
          rw [decide_eq_true (show 0 ≤ (z : Int) ∧ (z : Int) < (xs.length : Int) ∧ 0 ≤ ((z % 2 : Nat) : Int) ∧ ((z % 2 : Nat) : Int) ≤ (z : Int) + 2 by omega)]
          simp only [Bool.and_self, cond_true]
          unfold cnQ
          rw [ew, em]
          rfl
  obtain ⟨v1, h1, hk1, hok⟩ := evalFn_ok (orcT_ok tabC_ok plainL_ok) mixed Try.func23 ctL_ok hv
  cases hk1
  exact plain_crs (hok.plain rfl crs_ro)
end Go.Proofs.Ytojlmpcbplepcaa
