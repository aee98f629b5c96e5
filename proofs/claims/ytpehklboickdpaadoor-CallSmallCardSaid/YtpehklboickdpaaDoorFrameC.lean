/- Chapter 8: the row's table, and the call. -/
import Derived.Test.YtpehklboickdpaaDoorAwake
import Derived.Test.YtpehklboickdpaaDoorEng4
namespace Go.Proofs.YtpehklboickdpaaDoor
open Go Go.Eng Go.ChangeShapes Go.WideShapes Go.ChangeAt Go.RowKit
theorem u8_range {a : Int} (w : (Lit.int .u8 a).wf = true) : 0 ≤ a ∧ a < 256 := by
  simp only [Lit.wf, IntKind.min, IntKind.max, IntKind.signed, IntKind.bits, Bool.and_eq_true] at w
  simp at w
  omega
theorem u8_pos {a : Int} (w : (Lit.int .u8 a).wf = true) : 0 ≤ a := (u8_range w).1
def laidL : List (String × DataW Unit) := [("finesse/call.texts", Rows.laid_finesse_call_texts)]
def textsB : List (List UInt8) := textsL.map fun b => b.data.toList
theorem texts_datum : (Rows.laid_finesse_call_texts : DataW Unit) = .agg (textsB.map fun s => .lit (.string s)) := by kernel_rfl
theorem own : ownKnob Tryd.prog.godebug = none := by kernel_rfl
theorem gTexts : Tryd.prog.globalNamed "finesse/call.texts" = some 0 := by kernel_rfl
theorem tTexts : (Tryd.prog.globals[0]?).map (·.type) = some 61 := by kernel_rfl
theorem cells9 : Tryd.prog.cellsOf 9 = 1 := by kernel_rfl
theorem door_met (os : Os) (args : Array Value) : laidMetH Tryd.prog laidL ((World.doorLaid Tryd.prog 400 os).forCall (fun _ _ => 0) ⟨#[], args, []⟩).memory :=
  laidMetH_of_parts3 (fuel := 8) (laidMet_of_run' 8 (by kernel_rfl) (by kernel_rfl)) (by kernel_rfl) (by kernel_rfl)
theorem of_laid {W : World} (h : laidMetH Tryd.prog laidL W) : Holds (envG 0) gH W := by
  rw [MakeChecks.laidMetH_plain _ _ _ (by kernel_rfl)] at h
  obtain ⟨ps, ⟨g0, t0, cs0, f0, p0, q0, hg0, ht0, hv0, hd0, _, _⟩, _, _⟩ := h
  obtain rfl := Option.some.inj (gTexts.symm.trans hg0)
  obtain rfl := Option.some.inj (tTexts.symm.trans ht0)
  refine holdsG fun i x hx => ?_
  rw [World.var?_cell hg0 hv0 i]
  have := laid_strs Tryd.underlying61 Tryd.underlying9 cells9 hd0 texts_datum i x.data.toList (by rw [textsB, List.getElem?_map, hx]; rfl)
  simpa using this
theorem calls_ofO {C : Oracle} (hC : OracleOk Tryd.prog C) {L : Loops} (hL : loopsOk Tryd.prog L) {f : FuncId} {fn : Func} (hf : Tryd.prog.funcs[f]? = some fn) {args : List V} (he : evalFn Tryd.prog C L 100 f fn args gH (fun v _ => some v) = some (.bool true)) (ha : plainVs args = true) {W : World} (hL2 : laidMetH Tryd.prog laidL W) :
    Calls Tryd.prog f (concs env0 args).toArray W fun e w' => e = .returned (.bool true) ∧ RowKit.Below W.heap.size W w' := by
  obtain ⟨v1, h1, hk, hok⟩ := evalFn_ok hC mixed hf hL he
  cases hk
  obtain ⟨q1, q2⟩ := plainVs_conc (E := env0) (E' := envG 0) (n := gH.length) args ha
  rw [q1]
  refine (hok _ W (of_laid hL2) q2).mono ?_
  rintro e w' ⟨x, E', rfl, hx, _, ht⟩
  refine ⟨by rw [hx.bool], ht.below_ro fun b blk hb => ?_⟩
  cases b with
  | zero => simp only [gH, List.getElem?_cons_zero, Option.some.injEq] at hb; subst hb; rfl
  | succ b => simp [gH] at hb
theorem calls_of {T : PTab} (hT : PTabOk Tryd.prog T) {LL : FuncId → Loops} (hL : ∀ f, loopsOk Tryd.prog (LL f)) {f : FuncId} {fn : Func} (hf : Tryd.prog.funcs[f]? = some fn) {args : List V} (he : lawG T LL f fn args = some (.bool true)) (ha : plainVs args = true) {W : World} (hL2 : laidMetH Tryd.prog laidL W) :
    Calls Tryd.prog f (concs env0 args).toArray W fun e w' => e = .returned (.bool true) ∧ RowKit.Below W.heap.size W w' := calls_ofO (orcA_ok hT hL) (hL f) hf he ha hL2
end Go.Proofs.YtpehklboickdpaaDoor
