/- Chapter 8: ReadAll where it finds none. -/
import Derived.Test.YtpehklboickdpaaDoorRA3
namespace Go.Proofs.YtpehklboickdpaaDoor
open Go Go.Eng
def raO (r : ByteArray) : Option (List Int) := raL rdL (splitW r.data.toList) []
def raBad (r : ByteArray) : Bool := (raO r).isNone
def raVal (r : ByteArray) : List Int := (raO r).getD []
noncomputable def raTree : List PV → Fin
  | [.s r, .b b, .ss tl, .s s1, .s s2, .s s3] => .br (pB (tl = textsL) && decide (lenS r ≤ 1000000)) (.br (!b) (.leaf (.exit 0) (raX0.at [.ss tl, .s s1, .s s2, .s s3]))
      (.br (raBad r) (.leaf .ret (raR.at [.ss tl, .s s1, .s s2, .s s3])) (.leaf (.exit 0) (raX.at [.ss tl, .s s1, .s s2, .s s3, .l (raVal r)])))) .no
  | _ => .no
noncomputable def raLL : FuncId → Loops := fun f => match f with
  | 51 => sums (fun n => match n with | 1 => some (lsumF 7 raT0 raLp raTree) | _ => none)
  | _ => noLoops
theorem raLL_ok : ∀ f, loopsOk Tryd.prog (raLL f) := fun f => by
  unfold raLL
  split
  · intro n g hg
    simp only [sums] at hg
    split at hg
    · cases hg
      refine lsumF_ok (by kernel_rfl) (fun rd ps e1 st1 hq => ?_)
      unfold raTree at hq
      split at hq
      · rename_i r b tl s1 s2 s3
        simp only [Fin.pick] at hq
        cases hc : (pB (tl = textsL) && decide (lenS r ≤ 1000000)) with
        | false => rw [hc] at hq; cases hq
        | true =>
          rw [hc, cond_true] at hq
          simp only [Bool.and_eq_true, decide_eq_true_eq, pB_iff] at hc
          obtain ⟨rfl, hl⟩ := hc
          have hf := ra_first rd rdC rdE r s1 s2 s3 b
          cases b with
          | false =>
            rw [Bool.not_false, cond_true] at hq
            cases hq
            exact loop_leaveX (T2 := raT) (T' := raE0) (orcRd_ok tabS_ok plainL_ok) mixed noLoops_ok (by kernel_rfl) raE0_ok hf raCodes (by simp)
          | true =>
            rw [Bool.not_true, cond_false] at hq
            obtain ⟨t, rfl⟩ : ∃ t, r = bA t := ⟨_, bA_of r⟩
            rw [lenS_bA] at hl
            rw [ra_at hl] at hf
            have hO : raO (bA t) = raL rdL (pend true t) [] := rfl
            rw [pend_eq] at hO
            cases hw : rdL (cutW t) with
            | none =>
              rw [one_none hw] at hf
              have hb : raBad (bA t) = true := by
                unfold raBad
                rw [hO]
                simp only [raL, hw]; rfl
              rw [hb, cond_true] at hq
              cases hq
              exact loop_leaveX (T2 := raT) (T' := raE0) (orcRd_ok tabS_ok plainL_ok) mixed noLoops_ok (by kernel_rfl) raE0_ok hf raCodes (by simp)
            | some k =>
              rw [one_some hw, (rd_some hw).1, cond_false, cond_true] at hf
              have hr := rest_len (t := t)
              obtain ⟨n, hn⟩ := ra_loop rd s1 s2 s3 ((restW t).getD [], (restW t).isSome, [(k : Int)]) ⟨by dsimp only; omega, by simp⟩
              dsimp only at hn
              have hv : raL rdL (pend (restW t).isSome ((restW t).getD [])) [(k : Int)] = raO (bA t) := by
                rw [hO]
                simp only [raL, hw]
                rfl
              rw [hv] at hn
              have main := loop_peelX (T2 := raT) (T' := raE0) (orcRd_ok tabS_ok plainL_ok) mixed noLoops_ok (by kernel_rfl) raE0_ok hf raCodes hn
              cases ho : raO (bA t) with
              | none =>
                have hb : raBad (bA t) = true := by unfold raBad; rw [ho]; rfl
                rw [hb, cond_true] at hq
                cases hq
                rw [ho] at main
                exact main
              | some l =>
                have hb : raBad (bA t) = false := by unfold raBad; rw [ho]; rfl
                have hv2 : raVal (bA t) = l := by unfold raVal; rw [ho]; rfl
                rw [hb, cond_false, hv2] at hq
                cases hq
                rw [ho] at main
                exact main
      · cases hq
    · cases hg
  · exact noLoops_ok
end Go.Proofs.YtpehklboickdpaaDoor
