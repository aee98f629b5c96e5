/- Chapter 4: the examples hold. -/
import Derived.Test.YtbocdcnkmcejjaaDoorBase
namespace Go.Proofs.YtbocdcnkmcejjaaDoor
open Go Go.Eng
/-- What a call leaves of the tables: nothing else is looked at. -/
def keepG (v : V) : List Blk → Option (V × List Int)
  | .glob 0 (.ints .u8 l) :: _ => some (v, l)
  | _ => none
theorem awake_eval : evalFn Tryd.prog (orcS tabP plainL) noLoops 100 12 Tryd.f12 [] gH keepG = some (.bool true, bruijnL) := by kernel_rfl
theorem cutG {f : FuncId} {fn : Func} {T : PTab} (hT : PTabOk Tryd.prog T) {LL : FuncId → Loops} (hL : ∀ f, loopsOk Tryd.prog (LL f)) (hf : Tryd.prog.funcs[f]? = some fn) {args : List V} {v : V}
    (h : evalFn Tryd.prog (orcS T LL) (LL f) 100 f fn args gH keepG = some (v, bruijnL)) (hv : plainV v = true) : FnOK Tryd.prog f args gH v gH := by
  obtain ⟨v1, h1, hk, hok⟩ := evalFn_ok (orcS_ok hT hL) mixed hf (hL f) h
  unfold keepG at hk
  split at hk
  · cases hk
    exact FnOK.cut (h := gH) hok rfl hv
  · cases hk
theorem awake_fn : FnOK Tryd.prog 12 [] gH (.bool true) gH := cutG tabP_ok plainL_ok Tryd.func12 awake_eval rfl
def eqIs : List Int → List Int → Bool
  | [], [] => true
  | a :: l, b :: m => decide (a = b) && eqIs l m
  | _, _ => false
theorem eqIs_ok : ∀ {l m : List Int}, eqIs l m = true → l = m
  | [], [], _ => rfl
  | a :: l, b :: m, h => by
    simp only [eqIs, Bool.and_eq_true, decide_eq_true_eq] at h
    rw [h.1, eqIs_ok h.2]
  | [], _ :: _, h => by cases h
  | _ :: _, [], h => by cases h
def gAwake : List V → List Blk → Option (Bool × V × List Blk)
  | [], [.glob 0 (.ints .u8 l)] => some (eqIs l bruijnL, .bool true, [])
  | _, _ => none
def hTabA : HTab := addH 12 gAwake hTabS
def hDomA : FuncId → Bool := fun f => Nat.beq f 12 || Nat.beq f 36
def glA : FuncId → List Nat := fun f => bif Nat.beq f 12 then [0] else []
theorem hTabA_ok : HTabOk Tryd.prog hTabA := by
  refine addH_ok ?_ hTabS_ok
  intro args h c v nb hq hc
  unfold gAwake at hq
  split at hq
  · cases hq
    have hc := eqIs_ok hc
    subst hc
    exact ⟨.of Tryd.func12 (by kernel_rfl), awake_fn⟩
  · cases hq
noncomputable abbrev orcA (T : PTab) (LL : FuncId → Loops) : Oracle := inl Tryd.prog ftab T LL 100 never hDomA (hOrcG glA hTabA) 20
theorem orcA_ok {T : PTab} (hT : PTabOk Tryd.prog T) {LL : FuncId → Loops} (hL : ∀ f, loopsOk Tryd.prog (LL f)) : OracleOk Tryd.prog (orcA T LL) := inl_ok (hOrcG_ok hTabA_ok) ftab_ok hT hL mixed 20
noncomputable abbrev lawG (T : PTab) (LL : FuncId → Loops) (f : FuncId) (fn : Func) (args : List V) : Option V := evalFn Tryd.prog (orcA T LL) (LL f) 100 f fn args gH (fun v _ => some v)
end Go.Proofs.YtbocdcnkmcejjaaDoor
