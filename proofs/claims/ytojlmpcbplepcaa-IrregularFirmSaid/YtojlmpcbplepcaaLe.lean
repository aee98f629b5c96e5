/- Chapter 10: Turn; Legal: one round. -/
import Derived.Test.YtojlmpcbplepcaaAc4
namespace Go.Proofs.Ytojlmpcbplepcaa
open Go Go.Eng
noncomputable abbrev evE (N : NC) (f : FuncId) (fn : Func) (args : List V) (xs ac : List Int) : Option V := evalFn Try.prog (orcE10 N (dTurn N) (dKind N) (tabS N) plainL) noLoops 100 f fn args (crsH false false xs ac) (fun v _ => some v)
theorem evE_fn {f : FuncId} {fn : Func} (hf : Try.prog.funcs[f]? = some fn) {args : List V} {xs ac : List Int} {v : V} (h : evE nC f fn args xs ac = some v) (hv : plainV v = true) (n1 n2 : Bool) : FnOK Try.prog f args (crsH n1 n2 xs ac) v (crsH n1 n2 xs ac) := by
  obtain ⟨v1, h1, hk1, hok⟩ := evalFn_ok (orcE10_ok (dTurn_ok nC_ok) dKind_ok tabS_ok plainL_ok) mixed hf noLoops_ok h
  cases hk1
  exact plain_crs (hok.plain hv crs_ro)
theorem turn14_eval (N : NC) (xs ac : List Int) (s : CD) : evE N 14 Try.f14 [.agg (s.vs (.gs 0) (.gs 1))] xs ac = bif N.J.OK xs then bif !decide (N.OP s xs ac = 0) then some (.tuple [.int .u8 0, .int .i64 (N.OP s xs ac)]) else some (.tuple [.int .u8 (N.TR s xs), .int .i64 0]) else none := by kernel_rfl
def tuV (s : CD) (xs ac : List Int) : Int := bif decide (opI s xs ac = 0) then trnI s xs else 0
theorem turn14_fn (n1 n2 : Bool) {s : CD} {xs ac : List Int} (h : okL xs = true) : FnOK Try.prog 14 [.agg (s.vs (.gs 0) (.gs 1))] (crsH n1 n2 xs ac) (.tuple [.int .u8 (tuV s xs ac), .int .i64 (opI s xs ac)]) (crsH n1 n2 xs ac) := by
  refine evE_fn Try.func14 (v := .tuple [.int .u8 (tuV s xs ac), .int .i64 (opI s xs ac)]) ?_ rfl n1 n2
  rw [turn14_eval, show nC.J.OK xs = true from h]
  unfold tuV
  show (bif !decide (opI s xs ac = 0) then some (V.tuple [.int .u8 0, .int .i64 (opI s xs ac)]) else some (V.tuple [.int .u8 (trnI s xs), .int .i64 0])) = _
  by_cases ho : opI s xs ac = 0
  · rw [ho]; rfl
  · rw [decide_eq_false ho]; rfl
/-! ### Legal -/
noncomputable def lgLp : Code := loopOf 6 Try.f18
def lgT : Tm := ⟨mkS [(1, .ptr 2 0), (5, .gs 3), (6, .int .u8)] 0 24, [.rs false 1 (.ints .u8), .rs false 1 (.ints .i64), .own 29 (.vs (crsT (.gs 0) (.gs 1))), .grow false 5 1 (.ints .u8)], []⟩
def lgX : Tm := ⟨mkS [(5, .gs 3)] 0 24, [.rs false 1 (.ints .u8), .rs false 1 (.ints .i64), .dead, .grow false 5 1 (.ints .u8)], []⟩
def lgIn (c : Int) (xs ac : List Int) (s : CD) (ys : List Int) : List PV := .i c :: .l xs :: .l ac :: s.pv [.l ys]
def lgOut (xs ac ys : List Int) : List PV := [.l xs, .l ac, .l ys]
theorem lg_round (N : NC) (rd : Option Nat) (c : Int) (s : CD) (xs ac ys : List Int) : roundT Try.prog (orcE10 N (dTurn N) (dKind N) (addTab 35 gRight emptyTab) plainL) noLoops 100 2 rd 18 lgLp lgT lgX (lgIn c xs ac s ys) =
    bif decide (c ≤ 37) then bif N.J.OK xs && (N.DK s && N.J.BY c) then bif N.LG s xs c then bif decide ((ys ++ [c]).length * 2 ≤ 70368744177664) then some (.normal, lgIn (wr .u8 (c + 1)) xs ac s (ys ++ [c]), []) else none else some (.normal, lgIn (wr .u8 (c + 1)) xs ac s ys, []) else none else some (.exit 0, lgOut xs ac ys, []) := by kernel_rfl
end Go.Proofs.Ytojlmpcbplepcaa
