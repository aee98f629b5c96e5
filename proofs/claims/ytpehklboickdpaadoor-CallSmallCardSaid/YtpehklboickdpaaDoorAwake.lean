/- Chapter 8: the examples hold. -/
import Derived.Test.YtpehklboickdpaaDoorTexts
namespace Go.Proofs.YtpehklboickdpaaDoor
open Go Go.Eng
/-- What a call leaves of the tables: nothing else is looked at. -/
def keepG (v : V) : List Blk → Option (V × List ByteArray)
  | .glob 0 (.strs l) :: _ => some (v, l)
  | _ => none
theorem awake_eval : evalFn Tryd.prog (orcS tabS plainL) noLoops 100 11 Tryd.f11 [] gH keepG = some (.bool true, textsL) := by kernel_rfl
theorem cutG {f : FuncId} {fn : Func} {T : PTab} (hT : PTabOk Tryd.prog T) {LL : FuncId → Loops} (hL : ∀ f, loopsOk Tryd.prog (LL f)) (hf : Tryd.prog.funcs[f]? = some fn) {args : List V} {v : V}
    (h : evalFn Tryd.prog (orcS T LL) (LL f) 100 f fn args gH keepG = some (v, textsL)) (hv : plainV v = true) : FnOK Tryd.prog f args gH v gH := by
  obtain ⟨v1, h1, hk, hok⟩ := evalFn_ok (orcS_ok hT hL) mixed hf (hL f) h
  unfold keepG at hk
  split at hk
  · cases hk
    exact FnOK.cut (h := gH) hok rfl hv
  · cases hk
theorem awake_fn : FnOK Tryd.prog 11 [] gH (.bool true) gH := cutG tabS_ok plainL_ok Tryd.func11 awake_eval rfl
noncomputable def gAwake : List V → List Blk → Option (Bool × V × List Blk)
  | [], [.glob 0 (.strs l)] => some (pB (l = textsL), .bool true, [])
  | _, _ => none
noncomputable def hTabA : HTab := addH 11 gAwake hTabS
def hDomA : FuncId → Bool := fun f => Nat.beq f 11 || Nat.beq f 38
def glA : FuncId → List Nat := fun f => bif Nat.beq f 11 then [0] else []
theorem hTabA_ok : HTabOk Tryd.prog hTabA := by
  refine addH_ok ?_ hTabS_ok
  intro args h c v nb hq hc
  unfold gAwake at hq
  split at hq
  · cases hq
    rw [pB_iff] at hc
    subst hc
    exact ⟨.of Tryd.func11 (by kernel_rfl), awake_fn⟩
  · cases hq
noncomputable abbrev orcA (T : PTab) (LL : FuncId → Loops) : Oracle := inl Tryd.prog ftab T LL 100 never hDomA (hOrcG glA hTabA) 20
theorem orcA_ok {T : PTab} (hT : PTabOk Tryd.prog T) {LL : FuncId → Loops} (hL : ∀ f, loopsOk Tryd.prog (LL f)) : OracleOk Tryd.prog (orcA T LL) := inl_ok (hOrcG_ok hTabA_ok) ftab_ok hT hL mixed 20
noncomputable abbrev lawG (T : PTab) (LL : FuncId → Loops) (f : FuncId) (fn : Func) (args : List V) : Option V := evalFn Tryd.prog (orcA T LL) (LL f) 100 f fn args gH (fun v _ => some v)
end Go.Proofs.YtpehklboickdpaaDoor
