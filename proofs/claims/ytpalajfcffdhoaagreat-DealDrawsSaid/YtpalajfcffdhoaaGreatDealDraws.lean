/- The statement DealDraws holds: whatever the arguments, the law's call returns true and its arguments read as they did. No condition. -/
import Derived.Test.YtpalajfcffdhoaaGreatZ13
import Derived.Test.YtpalajfcffdhoaaGreatZ13
namespace Go.Proofs.YtpalajfcffdhoaaGreat.dealDraws
open Go Go.Eng Go.Proofs.YtpalajfcffdhoaaGreat
open Go.ChangeShapes Go.WideShapes Go.ChangeAt Go.RowKit Go.WideMaps
set_option linter.unusedVariables false
theorem quaddeal : Go.WideMaps.ArrKey Tryz.prog 24 22 4 := ⟨Tryz.underlying24, by kernel_rfl, by kernel_rfl, by kernel_rfl⟩
set_option maxRecDepth 100000 in
theorem lifted (os : Os) (started : os.Started) (H : Type) (enc : TypeId × Value → H) :
    ReturnsInHanded {} Tryz.checked os 3 .any (Rows.dealDrawsSpec.pre6 enc Tryz.prog Tryz.f3 Rows.dealDrawsRow.domain false) (Rows.dealDrawsSpec.post enc Tryz.prog Tryz.f3 false true false false) := by
  refine returnsInHanded_of_change (C := Tryz.checked) ownN started (by kernel_rfl) Tryz.func3
    (ChangeSpec.witness6 (enc := enc) (C := Tryz.checked) false ⟨#[], #[.int .i64 0, .agg #[.int .u64 0, .int .u64 0, .int .u64 0, .int .u64 0]], []⟩ 10 (by kernel_rfl) (by kernel_rfl) (by kernel_rfl) (by kernel_rfl)) ?_
  intro W base args ds gs before hval0 hW hcnd _
  have hval : ∀ (j : Nat) t v, Tryz.f3.params[j]? = some t → args[j]? = some v → Value.okWide Tryz.prog W .any base t v := hval0
  have hW' := hW
  obtain ⟨p, q, hA0, hV, rfl, hfz, hnd⟩ := hW
  have hA : DataW.TrodAll enc Tryz.prog W 0 (fun _ => true) true Tryz.f3.params.toList args.toList ds p := hA0
  rw [Tryz.params3] at hA hval
  obtain ⟨v0, vs0, d0, ds0, p0, q0, hargs, rfl, rfl, h0, r0⟩ := trodAll_cons hA
  obtain ⟨v1, vs1, d1, ds1, p1, q1, rfl, rfl, rfl, h1, r1⟩ := trodAll_cons r0
  obtain ⟨rfl, rfl, rfl⟩ := trodAll_nil r1
  obtain rfl : args = #[v0, v1] := by cases args; simp_all
  obtain ⟨rfl, rfl⟩ := trodVars_none hV
  obtain ⟨a0, rfl, rfl, rfl, w0⟩ := open_int Tryz.underlying3 (hval 0 3 v0 rfl rfl) h0
  obtain ⟨x10, x11, x12, x13, rfl, rfl, rfl, w10, w11, w12, w13⟩ := open_quad quaddeal Tryz.underlying22 (hval 1 24 v1 rfl rfl) h1
  clear hA0 hval0
  simp only [List.append_nil] at hW'
  have hcalls : Calls Tryz.prog 3 #[.int .i64 a0, .agg #[.int .u64 x10, .int .u64 x11, .int .u64 x12, .int .u64 x13]] W fun e W' => e = .returned (.bool true) ∧ RowKit.Below W.heap.size W W' := by
    have h := calls_of_pure (fnPure_of_eval (N := 100) orcZ1_ok mixed Tryz.func3 (by kernel_rfl) noLoops_ok (draws_true a0 (in4_of w10 w11 w12 w13)) rfl rfl) rfl W
    simpa [concs, conc, q4] using h
  refine hcalls.mono fun e W' ⟨he, hg⟩ => ?_
  subst he
  exact ⟨_, rfl, post_below (pa := []) (pv := []) hW' (fun _ _ _ => (trodAll_cons_mk (shut_bool Tryz.underlying4 _) trodAll_mk0)) (fun sp _ => (trodAll_cons_mk (shut_int Tryz.underlying3 w0) (trodAll_cons_mk (shut_quad quaddeal Tryz.underlying22 w10 w11 w12 w13) trodAll_mk0))) (fun _ _ => rfl) rfl
    hg (ok_one (by kernel_rfl) rfl (okWide_bool_mk Tryz.underlying4 _))⟩
theorem over : Rows.dealDrawsRow.holds Tryz.pinned (OpenSpec.ofChange Rows.dealDrawsSpec) :=
  OpenClaim.holds_of_wide 3 Tryz.f3 rfl rfl rfl rfl rfl rfl rfl ⟨rfl, rfl, rfl, rfl, rfl⟩ rfl rfl rfl rfl rfl (by kernel_rfl) Tryz.func3 (by kernel_rfl)
    (of_decide_eq_true (by kernel_rfl)) (by unfold Func.isWrapper; first | (rw [if_pos (by decide +kernel)]; kernel_rfl) | (rw [if_neg (by decide +kernel)]; exact ⟨rfl, rfl⟩))
    (fun os started H enc _ => lifted os started H enc)
/-- The statement. -/
theorem proved : Rows.DealDrawsSaid := over
#print axioms proved
end Go.Proofs.YtpalajfcffdhoaaGreat.dealDraws
