/- Texts merged: FrameC, LSmall3. -/
import Derived.Test.YtbocdcnkmcejjaaDoorAwake
import Derived.Test.YtbocdcnkmcejjaaDoorEng4
import Derived.Test.YtbocdcnkmcejjaaDoorLSmall2
/- Chapter 4: the row's table, and the call. -/
namespace Go.Proofs.YtbocdcnkmcejjaaDoor
open Go Go.Eng Go.ChangeShapes Go.WideShapes Go.ChangeAt Go.RowKit
theorem u8_range {a : Int} (w : (Lit.int .u8 a).wf = true) : 0 ≤ a ∧ a < 256 := by
  simp only [Lit.wf, IntKind.min, IntKind.max, IntKind.signed, IntKind.bits, Bool.and_eq_true] at w
  simp at w
  omega
theorem u8_pos {a : Int} (w : (Lit.int .u8 a).wf = true) : 0 ≤ a := (u8_range w).1
theorem u64_range {a : Int} (w : (Lit.int .u64 a).wf = true) : 0 ≤ a ∧ a < 18446744073709551616 := by
  simp only [Lit.wf, IntKind.min, IntKind.max, IntKind.signed, IntKind.bits, Bool.and_eq_true] at w
  simp at w
  omega
theorem u64_pos {a : Int} (w : (Lit.int .u64 a).wf = true) : 0 ≤ a := (u64_range w).1
def laidL : List (String × DataW Unit) := [("math/bits.deBruijn64tab", Rows.laid_math_bits_deBruijn64tab), ("unicode/utf8.acceptRanges", Rows.laid_unicode_utf8_acceptRanges), ("unicode/utf8.first", Rows.laid_unicode_utf8_first)]
theorem table_datum : (Rows.laid_math_bits_deBruijn64tab : DataW Unit) = .agg (bruijnL.map fun s => .lit (.int .u8 s)) := by kernel_rfl
theorem own : ownKnob Tryd.prog.godebug = none := by kernel_rfl
theorem gTable : Tryd.prog.globalNamed "math/bits.deBruijn64tab" = some 0 := by kernel_rfl
theorem tTable : (Tryd.prog.globals[0]?).map (·.type) = some 82 := by kernel_rfl
theorem cells5 : Tryd.prog.cellsOf 5 = 1 := by kernel_rfl
theorem of_laid {W : World} (h : laidMetH Tryd.prog laidL W) : Holds (envG 0) gH W := by
  rw [MakeChecks.laidMetH_plain _ _ _ (by kernel_rfl)] at h
  obtain ⟨ps, ⟨g0, t0, cs0, f0, p0, q0, hg0, ht0, hv0, hd0, _, _⟩, _, _⟩ := h
  obtain rfl := Option.some.inj (gTable.symm.trans hg0)
  obtain rfl := Option.some.inj (tTable.symm.trans ht0)
  refine holdsGI fun i x hx => ?_
  rw [World.var?_cell hg0 hv0 i]
  simpa using laid_ints Tryd.underlying82 Tryd.underlying5 cells5 hd0 table_datum i x hx
theorem calls_ofO {C : Oracle} (hC : OracleOk Tryd.prog C) {L : Loops} (hL : loopsOk Tryd.prog L) {f : FuncId} {fn : Func} (hf : Tryd.prog.funcs[f]? = some fn) {args : List V} (he : evalFn Tryd.prog C L 100 f fn args gH (fun v _ => some v) = some (.bool true)) (ha : plainVs args = true) {W : World} (hL2 : laidMetH Tryd.prog laidL W) :
    Calls Tryd.prog f (concs env0 args).toArray W fun e w' => e = .returned (.bool true) ∧ RowKit.Below W.heap.size W w' := by
  obtain ⟨v1, h1, hk, hok⟩ := evalFn_ok hC mixed hf hL he
  cases hk
  obtain ⟨q1, q2⟩ := plainVs_conc (E := env0) (E' := envG 0) (n := gH.length) args ha
  rw [q1]
  refine (hok _ W (of_laid hL2) q2).mono ?_
  rintro e w' ⟨x, E', rfl, hx, _, ht⟩
  refine ⟨by rw [hx.bool], ht.below_ro fun b blk hb => ?_⟩
  cases b with
  | zero => simp only [gH, List.getElem?_cons_zero, Option.some.injEq] at hb; subst hb; rfl
  | succ b => simp [gH] at hb
theorem calls_ofV {C : Oracle} (hC : OracleOk Tryd.prog C) {L : Loops} (hL : loopsOk Tryd.prog L) {f : FuncId} {fn : Func} (hf : Tryd.prog.funcs[f]? = some fn) {args : List V} {chk : V → Bool} (hchk : ∀ u, chk u = true → u = .bool true) (he : evalFn Tryd.prog C L 100 f fn args gH (fun v _ => some (chk v)) = some true) (ha : plainVs args = true) {W : World} (hL2 : laidMetH Tryd.prog laidL W) :
    Calls Tryd.prog f (concs env0 args).toArray W fun e w' => e = .returned (.bool true) ∧ RowKit.Below W.heap.size W w' := by
  obtain ⟨v1, h1, hk, hok⟩ := evalFn_ok hC mixed hf hL he
  simp only [Option.some.injEq] at hk
  rw [hchk v1 hk] at hok
  obtain ⟨q1, q2⟩ := plainVs_conc (E := env0) (E' := envG 0) (n := gH.length) args ha
  rw [q1]
  refine (hok _ W (of_laid hL2) q2).mono ?_
  rintro e w' ⟨x, E', rfl, hx, _, ht⟩
  refine ⟨by rw [hx.bool], ht.below_ro fun b blk hb => ?_⟩
  cases b with
  | zero => simp only [gH, List.getElem?_cons_zero, Option.some.injEq] at hb; subst hb; rfl
  | succ b => simp [gH] at hb
theorem calls_of {T : PTab} (hT : PTabOk Tryd.prog T) {LL : FuncId → Loops} (hL : ∀ f, loopsOk Tryd.prog (LL f)) {f : FuncId} {fn : Func} (hf : Tryd.prog.funcs[f]? = some fn) {args : List V} (he : lawG T LL f fn args = some (.bool true)) (ha : plainVs args = true) {W : World} (hL2 : laidMetH Tryd.prog laidL W) :
    Calls Tryd.prog f (concs env0 args).toArray W fun e w' => e = .returned (.bool true) ∧ RowKit.Below W.heap.size W w' := calls_ofO (orcA_ok hT hL) (hL f) hf he ha hL2
end Go.Proofs.YtbocdcnkmcejjaaDoor

/- Chapter 4: the law CardSmall is true. -/
namespace Go.Proofs.YtbocdcnkmcejjaaDoor
open Go Go.Eng Go.RowKit Go.ChangeAt
def csS : List (Int × ByteArray) := [(0, ⟨#[]⟩), (0, ⟨#[46]⟩), (0, ⟨#[46, 46]⟩), (0, ⟨#[46, 46, 46]⟩), (0, ⟨#[46, 46, 46, 46]⟩), (0, ⟨#[65, 46, 46, 46, 65]⟩), (0, ⟨#[65, 65, 46, 46, 46]⟩), (0, ⟨#[75, 65, 46, 46, 46]⟩), (0, ⟨#[65, 46, 75, 46, 81, 46, 74]⟩),
  (0, ⟨#[65, 75, 81, 74, 84, 57, 56, 55, 54, 53, 52, 51, 50, 46, 46, 46]⟩), (0, ⟨#[65, 46, 46]⟩), (0, ⟨#[49, 46, 46, 46]⟩), (0, ⟨#[49, 48, 46, 46, 46]⟩), (0, ⟨#[97, 46, 46, 46]⟩), (0, ⟨#[65, 46, 32, 46, 46]⟩), (0, ⟨#[46, 46, 46, 50]⟩),
  (4503599627370495, ⟨#[]⟩), (4503599627370496, ⟨#[]⟩), (18446744073709551615, ⟨#[]⟩)]
noncomputable def csF (N : NO) : List (Int × ByteArray) → Option V
  | [] => bif pB (bruijnL = bruijnL) then some (.bool true) else none
  | p :: r => bif pB (bruijnL = bruijnL) && N.d2 p.1 [] p.2 then csF N r else none
theorem small_eval (N : NO) : evalFn Tryd.prog (orcO8 N) csL 100 8 Tryd.f8 [] (gH ++ [.ro (.vs [])]) (fun v _ => some v) =
    cond (codesB [(csLp1, csLp1)]) (bif pB ((0 : Int) = 0 ∧ bruijnL = bruijnL) then cond (codesB [(csLp3, csLp3)]) (bif pB ((0 : Int) = 0 ∧ bruijnL = bruijnL) then csF N csS else none) none else none) none := by kernel_rfl
theorem csF_true : ∀ l : List (Int × ByteArray), (∀ p ∈ l, 0 ≤ p.1 ∧ lenS p.2 ≤ 100) → csF O80 l = some (.bool true)
  | [], _ => by rw [csF, pB_iff.2 rfl]; rfl
  | p :: r, h => by
    have hp := h p (by simp)
    rw [csF, pB_iff.2 rfl, show O80.d2 = D70 from rfl, d70 hp.1 (fun c hc => by cases hc) (by decide) (by omega), csF_true r fun q hq => h q (by simp [hq])]
    rfl
theorem small_true : evalFn Tryd.prog (orcO8 O80) csL 100 8 Tryd.f8 [] (gH ++ [.ro (.vs [])]) (fun v _ => some v) = some (.bool true) := by
  have c1 : codesB [(csLp1, csLp1)] = true := by rw [codesB_iff]; intro x hx; simp at hx; rw [hx]
  have c3 : codesB [(csLp3, csLp3)] = true := by rw [codesB_iff]; intro x hx; simp at hx; rw [hx]
  rw [small_eval, c1, c3, pB_iff.2 ⟨rfl, rfl⟩, csF_true csS (by decide)]
  rfl
theorem small_calls {W : World} (hL2 : laidMetH Tryd.prog laidL W) : Calls Tryd.prog 8 #[] W fun e w' => e = .returned (.bool true) ∧ RowKit.Below W.heap.size W w' := by
  obtain ⟨v1, h1, hk, hok⟩ := evalFn_ok orcO8_ok mixed Tryd.func8 csL_ok small_true
  cases hk
  have hh : Holds (envG 0) (gH ++ [.ro (.vs [])]) W := Holds.snoc (of_laid hL2) ⟨rfl, fun i v hi => by simp [Row.toVs] at hi⟩ (fun b y _ _ hl _ => by simp [liveAt, Row.toVs] at hl)
  refine (hok _ W hh rfl).mono ?_
  rintro e w' ⟨x, E', rfl, hx, _, ht⟩
  refine ⟨by rw [hx.bool], ht.below_ro fun b blk hb => ?_⟩
  match b, hb with
  | 0, hb => cases hb; rfl
  | 1, hb => cases hb; rfl
  | b + 2, hb => simp [gH] at hb
end Go.Proofs.YtbocdcnkmcejjaaDoor
