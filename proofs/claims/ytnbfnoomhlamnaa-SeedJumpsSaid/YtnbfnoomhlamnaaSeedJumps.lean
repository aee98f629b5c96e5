/- The statement SeedJumps holds: whatever the seed and the two numbers of steps, the law's call returns true and its arguments read as they did. No condition. -/
import Derived.Test.YtnbfnoomhlamnaaPow
namespace Go.Proofs.Ytnbfnoomhlamnaa.seedJumps
open Go Go.Eng Go.Proofs.Ytnbfnoomhlamnaa

def q4 (a : Int) : Int := wr .i64 (a.tdiv 4)
def errs (s x v : Int) : Int := wr .i64 (wr .i64 (wr .i64 (wr .i64 (wr .i64 (wr .i64 (wr .i64 (errI (rightB s) + errI (rightB x)) + errI (rightB s)) + errI (rightB x)) + errI (rightB s)) + errI (rightB s)) + errI (rightB s)) + errI (rightB v))
theorem law_eval (n a b : Int) : evalAt tab3 plainL 4 Try.f4 [.int .i64 n, .int .i64 a, .int .i64 b] =
    bif !decide (errs (ofI n) (jumpI (ofI n) (q4 a)) (wr .i64 (nextV (ofI n) + 1)) = 0) then some (.bool false) else
    bif !decide (jumpI (jumpI (ofI n) (q4 a)) (q4 b) = jumpI (ofI n) (wr .i64 (q4 a + q4 b))) then some (.bool false) else
    bif !decide (jumpI (jumpI (ofI n) (q4 a)) (wr .i64 (0 - q4 a)) = ofI n) then some (.bool false) else
    bif !decide (jumpI (ofI n) 2147483646 = ofI n) then some (.bool false) else
    bif !decide (jumpI (ofI n) 1 = Ytnbfnoomhlamnaa.nextS (ofI n)) then some (.bool false) else
    bif !decide (jumpI (wr .i64 (nextV (ofI n) + 1)) (-1) = ofI n) then some (.bool false) else
    bif rightB (jumpI (ofI n) (q4 a)) then bif rightB (Ytnbfnoomhlamnaa.nextS (ofI n)) then bif decide (0 ≤ nextV (ofI n)) then bif decide (nextV (ofI n) < 2147483646) then
      some (.bool (decide (Ytnbfnoomhlamnaa.nextS (ofI n) = wr .i64 (nextV (ofI n) + 1))))
    else some (.bool false) else some (.bool false) else some (.bool false) else some (.bool false) := by kernel_rfl

theorem of_right (n : Int) : 1 ≤ ofI n ∧ ofI n ≤ 2147483646 := by
  have h2 := Int.tmod_lt_of_pos n (show (0 : Int) < 2147483646 by omega)
  have h3 : -2147483646 < n.tmod 2147483646 := by
    rcases Int.le_total 0 n with h | h
    · have := Int.tmod_nonneg 2147483646 h; omega
    · have h4 := Int.tmod_lt_of_pos (-n) (show (0 : Int) < 2147483646 by omega)
      rw [Int.neg_tmod] at h4
      omega
  unfold ofI
  generalize n.tmod 2147483646 = t at *
  cases h : decide (t < 0) with
  | true =>
    simp only [decide_eq_true_eq] at h
    rw [cond_true, wr64 (x := t + 2147483646) (by omega) (by omega), wr64 (by omega) (by omega)]
    omega
  | false =>
    simp only [decide_eq_false_iff_not] at h
    rw [cond_false, wr64 (by omega) (by omega)]
    omega
theorem q4_small {a : Int} (h : (Lit.int .i64 a).wf = true) : -2305843009213693952 ≤ q4 a ∧ q4 a ≤ 2305843009213693952 := by
  simp only [Lit.wf, IntKind.min, IntKind.max, IntKind.signed, IntKind.bits, Bool.and_eq_true, decide_eq_true_eq] at h
  have h1 := Int.tmod_add_mul_tdiv a 4
  have h2 := Int.tmod_lt_of_pos a (show (0 : Int) < 4 by omega)
  have h3 : -4 < a.tmod 4 := by
    rcases Int.le_total 0 a with h | h
    · have := Int.tmod_nonneg 4 h; omega
    · have h4 := Int.tmod_lt_of_pos (-a) (show (0 : Int) < 4 by omega)
      rw [Int.neg_tmod] at h4
      omega
  unfold q4
  generalize a.tmod 4 = t at *
  generalize a.tdiv 4 = q at *
  have hb : -9223372036854775808 ≤ a ∧ a ≤ 9223372036854775807 := by simpa using h
  rw [wr64 (by omega) (by omega)]
  omega
theorem law_true {n a b : Int} (wa : (Lit.int .i64 a).wf = true) (wb : (Lit.int .i64 b).wf = true) : evalAt tab3 plainL 4 Try.f4 [.int .i64 n, .int .i64 a, .int .i64 b] = some (.bool true) := by
  rw [law_eval]
  have ha := q4_small wa
  have hb := q4_small wb
  generalize q4 a = x at *
  generalize q4 b = y at *
  obtain ⟨s, hs⟩ : ∃ s : Nat, ofI n = s := ⟨(ofI n).toNat, by have := of_right n; omega⟩
  have hr := of_right n
  rw [hs] at hr ⊢
  have h1 : 1 ≤ s := by omega
  have h2 : s < 2147483647 := by omega
  have r0 : rightB (s : Int) = true := right_iff.2 ⟨by omega, by omega⟩
  have rj : ∀ k, rightB (jumpI s k) = true := fun k => by rw [jumpI_nat h1 h2]; exact J_right h1 h2 _
  have hn := next_jump h1 h2
  have hv := next_value h1 h2
  have hb1 := right_iff.1 (rj 1)
  have hvw : wr .i64 (nextV s + 1) = jumpI s 1 := by rw [hv, hn, wr64 (by omega) (by omega)]; omega
  have e1 : wr .i64 (x + y) = x + y := wr64 (by omega) (by omega)
  have e2 : wr .i64 (0 - x) = 0 - x := wr64 (by omega) (by omega)
  have c1 : jumpI (jumpI s x) y = jumpI s (x + y) := jump_add h1 h2 _ _ _ rfl
  have c2 : jumpI (jumpI s x) (0 - x) = s := by
    rw [jump_add h1 h2 x (0 - x) 0 (by omega)]
    exact jump_none h1 h2 rfl
  have c3 : jumpI s 2147483646 = s := jump_none h1 h2 rfl
  have c4 : jumpI (jumpI s 1) (-1) = s := by
    rw [jump_add h1 h2 1 (-1) 0 (by omega)]
    exact jump_none h1 h2 rfl
  rw [e1, e2, hvw, hn, c1, c2, c3, c4]
  have he : errs s (jumpI s x) (jumpI s 1) = 0 := by
    unfold errs
    rw [r0, rj, rj]
    decide
  rw [he, rj, rj]
  have v1 : decide (0 ≤ nextV (s : Int)) = true := decide_eq_true (by rw [hv, hn]; omega)
  have v2 : decide (nextV (s : Int) < 2147483646) = true := decide_eq_true (by rw [hv, hn]; omega)
  rw [v1, v2]
  simp

theorem walk (a0 a1 a2 : Int) (w1 : (Lit.int .i64 a1).wf = true) (w2 : (Lit.int .i64 a2).wf = true) (w : World) :
    Calls Try.prog 4 #[.int .i64 a0, .int .i64 a1, .int .i64 a2] w fun e w' => e = .returned (.bool true) ∧ RowKit.Below w.heap.size w w' := by
  have h := calls_of_pure (pure_at tab3_ok plainL_ok Try.func4 (by kernel_rfl) (law_true (n := a0) w1 w2) rfl rfl) rfl w
  simpa [concs, conc] using h

open Go.ChangeShapes Go.WideShapes Go.ChangeAt Go.RowKit
set_option linter.unusedVariables false

theorem own : ownKnob Try.prog.godebug = none := by kernel_rfl

set_option maxRecDepth 100000 in
theorem lifted (os : Os) (started : os.Started) (H : Type) (enc : TypeId × Value → H) :
    ReturnsInHanded {} Try.checked os 4 .any (Rows.seedJumpsSpec.pre6 enc Try.prog Try.f4 Rows.seedJumpsRow.domain false) (Rows.seedJumpsSpec.post enc Try.prog Try.f4 false true false false) := by
  refine returnsInHanded_of_change (C := Try.checked) own started (by kernel_rfl) Try.func4
    (ChangeSpec.witness6 (enc := enc) (C := Try.checked) false ⟨#[], #[.int .i64 0, .int .i64 0, .int .i64 0], []⟩ 8 (by kernel_rfl) (by kernel_rfl) (by kernel_rfl) (by kernel_rfl)) ?_
  intro W base args ds gs before hval0 hW hcnd _
  have hval : ∀ (j : Nat) t v, Try.f4.params[j]? = some t → args[j]? = some v → Value.okWide Try.prog W .any base t v := hval0
  have hW' := hW
  obtain ⟨p, q, hA0, hV, rfl, hfz, hnd⟩ := hW
  have hA : DataW.TrodAll enc Try.prog W 0 (fun _ => true) true Try.f4.params.toList args.toList ds p := hA0
  rw [Try.params4] at hA hval
  obtain ⟨v0, vs0, d0, ds0, p0, q0, hargs, rfl, rfl, h0, r0⟩ := trodAll_cons hA
  obtain ⟨v1, vs1, d1, ds1, p1, q1, rfl, rfl, rfl, h1, r1⟩ := trodAll_cons r0
  obtain ⟨v2, vs2, d2, ds2, p2, q2, rfl, rfl, rfl, h2, r2⟩ := trodAll_cons r1
  obtain ⟨rfl, rfl, rfl⟩ := trodAll_nil r2
  obtain rfl : args = #[v0, v1, v2] := by cases args; simp_all
  obtain ⟨rfl, rfl⟩ := trodVars_none hV
  obtain ⟨a0, rfl, rfl, rfl, w0⟩ := open_int Try.underlying3 (hval 0 3 v0 rfl rfl) h0
  obtain ⟨a1, rfl, rfl, rfl, w1⟩ := open_int Try.underlying3 (hval 1 3 v1 rfl rfl) h1
  obtain ⟨a2, rfl, rfl, rfl, w2⟩ := open_int Try.underlying3 (hval 2 3 v2 rfl rfl) h2
  clear hA0 hval0
  simp only [List.append_nil] at hW'
  refine (walk a0 a1 a2 w1 w2 W).mono fun e W' ⟨he, hg⟩ => ?_
  subst he
  exact ⟨_, rfl, post_below (pa := []) (pv := []) hW' (fun _ _ _ => (trodAll_cons_mk (shut_bool Try.underlying4 _) trodAll_mk0)) (fun sp _ => (trodAll_cons_mk (shut_int Try.underlying3 w0) (trodAll_cons_mk (shut_int Try.underlying3 w1) (trodAll_cons_mk (shut_int Try.underlying3 w2) trodAll_mk0)))) (fun _ _ => rfl) rfl
    hg (ok_one (by kernel_rfl) rfl (okWide_bool_mk Try.underlying4 _))⟩

theorem over : Rows.seedJumpsRow.holds Try.pinned (OpenSpec.ofChange Rows.seedJumpsSpec) :=
  OpenClaim.holds_of_wide 4 Try.f4 rfl rfl rfl rfl rfl rfl rfl ⟨rfl, rfl, rfl, rfl, rfl⟩ rfl rfl rfl rfl rfl (by kernel_rfl) Try.func4 (by kernel_rfl)
    (of_decide_eq_true (by kernel_rfl)) (by unfold Func.isWrapper; first | (rw [if_pos (by decide +kernel)]; kernel_rfl) | (rw [if_neg (by decide +kernel)]; exact ⟨rfl, rfl⟩))
    (fun os started H enc _ => lifted os started H enc)

/-- The statement. -/
theorem proved : Rows.SeedJumpsSaid := over
#print axioms proved
end Go.Proofs.Ytnbfnoomhlamnaa.seedJumps
