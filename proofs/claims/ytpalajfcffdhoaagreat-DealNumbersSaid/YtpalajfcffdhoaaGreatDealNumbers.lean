/- The statement DealNumbers holds: whatever the arguments, the law's call returns true and its arguments read as they did. No condition. -/
import Derived.Test.YtpalajfcffdhoaaGreatZ13
import Derived.Test.YtpalajfcffdhoaaGreatZ13
namespace Go.Proofs.YtpalajfcffdhoaaGreat.dealNumbers
open Go Go.Eng Go.Proofs.YtpalajfcffdhoaaGreat
open Go.ChangeShapes Go.WideShapes Go.ChangeAt Go.RowKit Go.WideMaps
set_option linter.unusedVariables false
theorem quadnat : Go.WideMaps.ArrKey Tryz.prog 35 33 4 := ⟨Tryz.underlying35, by kernel_rfl, by kernel_rfl, by kernel_rfl⟩
theorem quaddeal : Go.WideMaps.ArrKey Tryz.prog 24 22 4 := ⟨Tryz.underlying24, by kernel_rfl, by kernel_rfl, by kernel_rfl⟩
set_option maxRecDepth 100000 in
theorem lifted (os : Os) (started : os.Started) (H : Type) (enc : TypeId × Value → H) :
    ReturnsInHanded {} Tryz.checked os 4 .any (Rows.dealNumbersSpec.pre6 enc Tryz.prog Tryz.f4 Rows.dealNumbersRow.domain false) (Rows.dealNumbersSpec.post enc Tryz.prog Tryz.f4 false true false false) := by
  refine returnsInHanded_of_change (C := Tryz.checked) ownN started (by kernel_rfl) Tryz.func4
    (ChangeSpec.witness6 (enc := enc) (C := Tryz.checked) false ⟨#[], #[.agg #[.int .u64 0, .int .u64 0, .int .u64 0, .int .u64 0], .agg #[.int .u64 0, .int .u64 0, .int .u64 0, .int .u64 0], .agg #[.int .u32 0, .int .u32 0, .int .u32 0, .int .u32 0]], []⟩ 11 (by kernel_rfl) (by kernel_rfl) (by kernel_rfl) (by kernel_rfl)) ?_
  intro W base args ds gs before hval0 hW hcnd _
  have hval : ∀ (j : Nat) t v, Tryz.f4.params[j]? = some t → args[j]? = some v → Value.okWide Tryz.prog W .any base t v := hval0
  have hW' := hW
  obtain ⟨p, q, hA0, hV, rfl, hfz, hnd⟩ := hW
  have hA : DataW.TrodAll enc Tryz.prog W 0 (fun _ => true) true Tryz.f4.params.toList args.toList ds p := hA0
  rw [Tryz.params4] at hA hval
  obtain ⟨v0, vs0, d0, ds0, p0, q0, hargs, rfl, rfl, h0, r0⟩ := trodAll_cons hA
  obtain ⟨v1, vs1, d1, ds1, p1, q1, rfl, rfl, rfl, h1, r1⟩ := trodAll_cons r0
  obtain ⟨v2, vs2, d2, ds2, p2, q2, rfl, rfl, rfl, h2, r2⟩ := trodAll_cons r1
  obtain ⟨rfl, rfl, rfl⟩ := trodAll_nil r2
  obtain rfl : args = #[v0, v1, v2] := by cases args; simp_all
  obtain ⟨rfl, rfl⟩ := trodVars_none hV
  obtain ⟨x00, x01, x02, x03, rfl, rfl, rfl, w00, w01, w02, w03⟩ := open_quad quaddeal Tryz.underlying22 (hval 0 24 v0 rfl rfl) h0
  obtain ⟨x10, x11, x12, x13, rfl, rfl, rfl, w10, w11, w12, w13⟩ := open_quad quaddeal Tryz.underlying22 (hval 1 24 v1 rfl rfl) h1
  obtain ⟨x20, x21, x22, x23, rfl, rfl, rfl, w20, w21, w22, w23⟩ := open_quad quadnat Tryz.underlying33 (hval 2 35 v2 rfl rfl) h2
  clear hA0 hval0
  simp only [List.append_nil] at hW'
  have hcalls : Calls Tryz.prog 4 #[.agg #[.int .u64 x00, .int .u64 x01, .int .u64 x02, .int .u64 x03], .agg #[.int .u64 x10, .int .u64 x11, .int .u64 x12, .int .u64 x13], .agg #[.int .u32 x20, .int .u32 x21, .int .u32 x22, .int .u32 x23]] W fun e W' => e = .returned (.bool true) ∧ RowKit.Below W.heap.size W W' := by
    have h := calls_of_pure (fnPure_of_eval (N := 100) orcZ0_ok mixed Tryz.func4 (by kernel_rfl) noLoops_ok (numbers_true (in4_of w00 w01 w02 w03) (in4_of w10 w11 w12 w13) (inN_rg w20 w21 w22 w23)) rfl rfl) rfl W
    simpa [concs, conc, q4] using h
  refine hcalls.mono fun e W' ⟨he, hg⟩ => ?_
  subst he
  exact ⟨_, rfl, post_below (pa := []) (pv := []) hW' (fun _ _ _ => (trodAll_cons_mk (shut_bool Tryz.underlying4 _) trodAll_mk0)) (fun sp _ => (trodAll_cons_mk (shut_quad quaddeal Tryz.underlying22 w00 w01 w02 w03) (trodAll_cons_mk (shut_quad quaddeal Tryz.underlying22 w10 w11 w12 w13) (trodAll_cons_mk (shut_quad quadnat Tryz.underlying33 w20 w21 w22 w23) trodAll_mk0)))) (fun _ _ => rfl) rfl
    hg (ok_one (by kernel_rfl) rfl (okWide_bool_mk Tryz.underlying4 _))⟩
theorem over : Rows.dealNumbersRow.holds Tryz.pinned (OpenSpec.ofChange Rows.dealNumbersSpec) :=
  OpenClaim.holds_of_wide 4 Tryz.f4 rfl rfl rfl rfl rfl rfl rfl ⟨rfl, rfl, rfl, rfl, rfl⟩ rfl rfl rfl rfl rfl (by kernel_rfl) Tryz.func4 (by kernel_rfl)
    (of_decide_eq_true (by kernel_rfl)) (by unfold Func.isWrapper; first | (rw [if_pos (by decide +kernel)]; kernel_rfl) | (rw [if_neg (by decide +kernel)]; exact ⟨rfl, rfl⟩))
    (fun os started H enc _ => lifted os started H enc)
/-- The statement. -/
theorem proved : Rows.DealNumbersSaid := over
#print axioms proved
end Go.Proofs.YtpalajfcffdhoaaGreat.dealNumbers
