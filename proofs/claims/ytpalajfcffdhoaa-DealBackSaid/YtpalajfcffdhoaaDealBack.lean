/- The statement DealBack holds: whatever the arguments, the law's call returns true and its arguments read as they did. No condition. -/
import Derived.Test.YtpalajfcffdhoaaBaq
import Derived.Test.YtpalajfcffdhoaaFrameD
namespace Go.Proofs.Ytpalajfcffdhoaa.dealBack
open Go Go.Eng Go.Proofs.Ytpalajfcffdhoaa
open Go.ChangeShapes Go.WideShapes Go.ChangeAt Go.RowKit Go.WideMaps
set_option linter.unusedVariables false
theorem quadnat : Go.WideMaps.ArrKey Try.prog 30 28 4 := ⟨Try.underlying30, by kernel_rfl, by kernel_rfl, by kernel_rfl⟩
set_option maxRecDepth 100000 in
theorem lifted (os : Os) (started : os.Started) (H : Type) (enc : TypeId × Value → H) :
    ReturnsInHanded {} Try.checked os 6 .any (Rows.dealBackSpec.pre6 enc Try.prog Try.f6 Rows.dealBackRow.domain false) (Rows.dealBackSpec.post enc Try.prog Try.f6 false true false false) := by
  refine returnsInHanded_of_change (C := Try.checked) own10 started (by kernel_rfl) Try.func6
    (ChangeSpec.witness6 (enc := enc) (C := Try.checked) false ⟨#[], #[.slice none 0 0, .int .u64 0, .agg #[.int .u32 0, .int .u32 0, .int .u32 0, .int .u32 0], .agg #[.int .u32 0, .int .u32 0, .int .u32 0, .int .u32 0]], []⟩ 8 (by kernel_rfl) (by kernel_rfl) (by kernel_rfl) (by kernel_rfl)) ?_
  intro W base args ds gs before hval0 hW hcnd _
  have hval : ∀ (j : Nat) t v, Try.f6.params[j]? = some t → args[j]? = some v → Value.okWide Try.prog W .any base t v := hval0
  have hW' := hW
  obtain ⟨p, q, hA0, hV, rfl, hfz, hnd⟩ := hW
  have hA : DataW.TrodAll enc Try.prog W 0 (fun _ => true) true Try.f6.params.toList args.toList ds p := hA0
  rw [Try.params6] at hA hval
  obtain ⟨v0, vs0, d0, ds0, p0, q0, hargs, rfl, rfl, h0, r0⟩ := trodAll_cons hA
  obtain ⟨v1, vs1, d1, ds1, p1, q1, rfl, rfl, rfl, h1, r1⟩ := trodAll_cons r0
  obtain ⟨v2, vs2, d2, ds2, p2, q2, rfl, rfl, rfl, h2, r2⟩ := trodAll_cons r1
  obtain ⟨v3, vs3, d3, ds3, p3, q3, rfl, rfl, rfl, h3, r3⟩ := trodAll_cons r2
  obtain ⟨rfl, rfl, rfl⟩ := trodAll_nil r3
  obtain rfl : args = #[v0, v1, v2, v3] := by cases args; simp_all
  obtain ⟨rfl, rfl⟩ := trodVars_none hV
  obtain ⟨ba, n, c, rfl⟩ := okWide_slice Try.underlying22 (hval 0 22 v0 rfl rfl)
  obtain ⟨a1, rfl, rfl, rfl, w1⟩ := open_int Try.underlying23 (hval 1 23 v1 rfl rfl) h1
  obtain ⟨x20, x21, x22, x23, rfl, rfl, rfl, w20, w21, w22, w23⟩ := open_quad quadnat Try.underlying28 (hval 2 30 v2 rfl rfl) h2
  obtain ⟨x30, x31, x32, x33, rfl, rfl, rfl, w30, w31, w32, w33⟩ := open_quad quadnat Try.underlying28 (hval 3 30 v3 rfl rfl) h3
  clear hA0 hval0
  simp only [List.append_nil] at hW'
  have hlt : ∀ x ∈ p0, x.block < W.heap.size := fun x hx => by simpa using hW'.lt x hx
  have hcalls : Calls Try.prog 6 #[.slice ba n c, .int .u64 a1, .agg #[.int .u32 x20, .int .u32 x21, .int .u32 x22, .int .u32 x23], .agg #[.int .u32 x30, .int .u32 x31, .int .u32 x32, .int .u32 x33]] W fun e W' => e = .returned (.bool true) ∧ RowKit.Below W.heap.size W W' := by
    obtain ⟨ws, E, hw, hh, hc⟩ := open_bytes h0
    have h := calls_bytes orc7_ok (baLL_ok false) Try.func6 (args := [.gs 0, .int .u64 a1, .agg [.int .u32 x20, .int .u32 x21, .int .u32 x22, .int .u32 x23], .agg [.int .u32 x30, .int .u32 x31, .int .u32 x32, .int .u32 x33]]) (ws := ws) (back_true false hw (u64_rg w1) (inN_of w20 w21 w22 w23) (inN_of w30 w31 w32 w33)) hh rfl
    simp only [concs, hc] at h
    simpa [conc, concs] using h
  refine hcalls.mono fun e W' ⟨he, hg⟩ => ?_
  subst he
  exact ⟨_, rfl, post_below (pa := p0) (pv := []) hW' (fun _ _ _ => (trodAll_cons_mk (shut_bool Try.underlying4 _) trodAll_mk0))
    (fun sp hsp => by
      have := ((trodAll_cons_mk (WideElems.Trod_stays laidOut10 (by kernel_rfl) (of_decide_eq_true (by kernel_rfl)) h0 (fun x hx => hg.same (hlt x hx)) (fun x hx => hsp x hx)) (trodAll_cons_mk (shut_int Try.underlying23 w1) (trodAll_cons_mk (shut_quad quadnat Try.underlying28 w20 w21 w22 w23) (trodAll_cons_mk (shut_quad quadnat Try.underlying28 w30 w31 w32 w33) trodAll_mk0)))) : DataW.TrodAll enc Try.prog W' 0 sp true [22, 23, 30, 30] _ _ _)
      simp only [List.append_nil] at this
      exact this) (fun _ _ => rfl) (by simp)
    hg (ok_one (by kernel_rfl) rfl (okWide_bool_mk Try.underlying4 _))⟩
theorem over : Rows.dealBackRow.holds Try.pinned (OpenSpec.ofChange Rows.dealBackSpec) :=
  OpenClaim.holds_of_wide 6 Try.f6 rfl rfl rfl rfl rfl rfl rfl ⟨rfl, rfl, rfl, rfl, rfl⟩ rfl rfl rfl rfl rfl (by kernel_rfl) Try.func6 (by kernel_rfl)
    (of_decide_eq_true (by kernel_rfl)) (by unfold Func.isWrapper; first | (rw [if_pos (by decide +kernel)]; kernel_rfl) | (rw [if_neg (by decide +kernel)]; exact ⟨rfl, rfl⟩))
    (fun os started H enc _ => lifted os started H enc)
/-- The statement. -/
theorem proved : Rows.DealBackSaid := over
#print axioms proved
end Go.Proofs.Ytpalajfcffdhoaa.dealBack
