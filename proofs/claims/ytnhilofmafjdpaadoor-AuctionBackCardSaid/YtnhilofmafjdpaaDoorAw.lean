/- Chapter 9: the examples hold. -/
import Derived.Test.YtnhilofmafjdpaaDoorOrc
namespace Go.Proofs.YtnhilofmafjdpaaDoor
open Go Go.Eng
def idxI (s : ByteArray) (c : Int) : Int := Lib.indexByte s.data.toList c.toNat.toUInt8
def gIdx : List V → Option (Bool × V)
  | [.str s, .int .u8 c] => some (true, .int .i64 (idxI s c))
  | _ => none
def tabW : PTab := addTab 48 (gLine lineS) (addTab 111 gIdx emptyTab)
theorem tabW_ok : PTabOk Tryd.prog tabW := by
  refine addTab_ok ?_ (addTab_ok ?_ emptyTab_ok)
  · intro args c v h hc
    unfold gLine at h
    split at h
    · cases h
      simp only [decide_eq_true_eq] at hc
      exact pure_of_below (.of Tryd.func48 (by kernel_rfl)) rfl rfl fun w => line_p _ _ _ _ w hc.1 hc.2.1 hc.2.2.1 hc.2.2.2
    · cases h
  · intro args c v h _
    unfold gIdx at h
    split at h
    · cases h
      exact pure_of_same (.of Tryd.func111 (by kernel_rfl)) rfl rfl fun w => Tryd.stringslite_IndexByte _ _ w
    · cases h
def gH : List Blk := [.glob 0 (.strs textsL)]
/-- What a call leaves of the tables: nothing else is looked at. -/
def keepG (v : V) : List Blk → Option (V × List ByteArray)
  | .glob 0 (.strs l) :: _ => some (v, l)
  | _ => none
theorem awake_eval : evalFn Tryd.prog (orcC nA tabW plainL) noLoops 100 13 Tryd.f13 [] gH keepG = bif pB (textsL = textsL) && true then some (.bool true, textsL) else none := by kernel_rfl
theorem cutG {f : FuncId} {fn : Func} {T : PTab} (hT : PTabOk Tryd.prog T) {LL : FuncId → Loops} (hL : ∀ f, loopsOk Tryd.prog (LL f)) (hf : Tryd.prog.funcs[f]? = some fn) {args : List V} {v : V}
    (h : evalFn Tryd.prog (orcC nA T LL) (LL f) 100 f fn args gH keepG = some (v, textsL)) (hv : plainV v = true) : FnOK Tryd.prog f args gH v gH := by
  obtain ⟨v1, h1, hk, hok⟩ := evalFn_ok (orcC_ok hT hL) mixed hf (hL f) h
  unfold keepG at hk
  split at hk
  · cases hk
    exact FnOK.cut (h := gH) hok rfl hv
  · cases hk
theorem awake_fn : FnOK Tryd.prog 13 [] gH (.bool true) gH := cutG tabW_ok plainL_ok Tryd.func13 (by rw [show plainL 13 = noLoops from rfl, awake_eval, pB_iff.2 rfl]; rfl) rfl
/-! ### the examples as a contract, beside the others -/
noncomputable def gAwake : List V → List Blk → Option (Bool × V × List Blk)
  | [], [.glob 0 (.strs l)] => some (pB (l = textsL), .bool true, [])
  | _, _ => none
noncomputable def hTabA (N : NA) : HTab := addH 13 gAwake (hTabC N)
def domA : FuncId → Bool := fun f => Nat.beq f 13 || domC f
def glA : FuncId → List Nat := fun f => bif Nat.beq f 20 || Nat.beq f 13 then [0] else []
theorem hTabA_ok : HTabOk Tryd.prog (hTabA nA) := by
  refine addH_ok ?_ hTabC_ok
  intro args h c v nb hq hc
  unfold gAwake at hq
  split at hq
  · cases hq
    rw [pB_iff] at hc
    subst hc
    exact ⟨.of Tryd.func13 (by kernel_rfl), awake_fn⟩
  · cases hq
noncomputable abbrev orcA (N : NA) (T : PTab) (LL : FuncId → Loops) : Oracle := inl Tryd.prog ftab T LL 100 never domA (hOrcN glA nrB (hTabA N)) 20
theorem orcA_ok {T : PTab} (hT : PTabOk Tryd.prog T) {LL : FuncId → Loops} (hL : ∀ f, loopsOk Tryd.prog (LL f)) : OracleOk Tryd.prog (orcA nA T LL) := inl_ok (hOrcN_ok hTabA_ok) ftab_ok hT hL mixed 20
end Go.Proofs.YtnhilofmafjdpaaDoor
