/- Chapter 2: the law NatReads is true. -/
import Derived.Test.YthpdeiolhahobaaDoorRRead3
import Derived.Test.YthpdeiolhahobaaDoorLWrong2
namespace Go.Proofs.YthpdeiolhahobaaDoor
open Go Go.Eng
def gRd29 (N : NW) (C : ByteArray → Bool) : List V → Option (Bool × V)
  | [.str s] => some (C s, .tuple [N.nW (N.rd s), .int .i64 (N.rdE s)])
  | _ => none
def tabQ (N : NW) (C : ByteArray → Bool) : PTab := addTab 18 (gRdW N) (addTab 13 gAwake (addTab 29 (gRd29 N C) emptyTab))
def eqW (N : NW) (x : Int) : Bool := decide (N.w0 x = N.w0 x) && (decide (N.w1 x = N.w1 x) && (decide (N.w2 x = N.w2 x) && (decide (N.w3 x = N.w3 x) && true)))
theorem reads_eval (N : NW) (C : ByteArray → Bool) (s : ByteArray) : evalFn Tryd.prog (orcP (tabQ N C) plainL) noLoops 200 3 Tryd.f3 [.str s] [] (fun v _ => some v) =
    bif decide (80 < Int.ofNat (lenS s)) then some (.bool true) else bif N.rdC s then bif C s then bif eqW N (N.rd s) then bif decide (N.rdE s = N.rdE s) then some (.bool true) else some (.bool false) else some (.bool false) else none else none := by kernel_rfl
theorem reads0_eval (N : NW) (C : ByteArray → Bool) (s : ByteArray) : evalFn Tryd.prog (orcP (tabQ N C) plainL) noLoops 200 12 Tryd.f12 [.str s] [] (fun v _ => some v) =
    bif decide (80 < Int.ofNat (lenS s)) then some (.bool true) else bif N.rdC s then bif C s then bif eqW N (N.rd s) then some (.bool (decide (N.rdE s = N.rdE s))) else some (.bool false) else none else none := by kernel_rfl
def rd29C (s : ByteArray) : Bool := decide (lenS s ≤ 999999)
theorem tabQ_ok : PTabOk Tryd.prog (tabQ W0 rd29C) := by
  refine addTab_ok ?_ (addTab_ok ?_ (addTab_ok ?_ emptyTab_ok))
  · intro args c v h hc
    unfold gRdW at h
    split at h
    · cases h; exact read_p (of_decide_eq_true hc)
    · cases h
  · intro args c v h _
    unfold gAwake at h
    split at h
    · cases h; exact awake_p
    · cases h
  · intro args c v h hc
    unfold gRd29 at h
    split at h
    · cases h; exact rread_p (of_decide_eq_true hc)
    · cases h
theorem eqW_true (N : NW) (x : Int) : eqW N x = true := by simp [eqW]
theorem short {s : ByteArray} (h : ¬ (80 : Int) < Int.ofNat (lenS s)) : W0.rdC s = true ∧ rd29C s = true := by
  rw [show Int.ofNat (lenS s) = ((lenS s : Nat) : Int) from rfl] at h
  constructor
  · rw [show W0.rdC = rdC0 from rfl]; unfold rdC0; rw [decide_eq_true (by omega)]
  · unfold rd29C; rw [decide_eq_true (by omega)]
theorem reads_true (s : ByteArray) : evalFn Tryd.prog (orcP (tabQ W0 rd29C) plainL) noLoops 200 3 Tryd.f3 [.str s] [] (fun v _ => some v) = some (.bool true) := by
  rw [reads_eval]
  by_cases h : (80 : Int) < Int.ofNat (lenS s)
  · rw [decide_eq_true h]; rfl
  · obtain ⟨h1, h2⟩ := short h
    rw [decide_eq_false h, h1, h2, eqW_true, decide_eq_true (show W0.rdE s = W0.rdE s from rfl)]; rfl
theorem reads0_true (s : ByteArray) : evalFn Tryd.prog (orcP (tabQ W0 rd29C) plainL) noLoops 200 12 Tryd.f12 [.str s] [] (fun v _ => some v) = some (.bool true) := by
  rw [reads0_eval]
  by_cases h : (80 : Int) < Int.ofNat (lenS s)
  · rw [decide_eq_true h]; rfl
  · obtain ⟨h1, h2⟩ := short h
    rw [decide_eq_false h, h1, h2, eqW_true, decide_eq_true (show W0.rdE s = W0.rdE s from rfl)]; rfl
theorem orcQt_ok : OracleOk Tryd.prog (orcP (tabQ W0 rd29C) plainL) := orcP_ok tabQ_ok plainL_ok
theorem reads_p (s : ByteArray) : FnPure Tryd.prog 12 [.str s] (.bool true) := fnPure_of_eval (N := 200) orcQt_ok mixed Tryd.func12 (by kernel_rfl) noLoops_ok (reads0_true s) rfl rfl
theorem natReads_p (s : ByteArray) : FnPure Tryd.prog 3 [.str s] (.bool true) := fnPure_of_eval (N := 200) orcQt_ok mixed Tryd.func3 (by kernel_rfl) noLoops_ok (reads_true s) rfl rfl
end Go.Proofs.YthpdeiolhahobaaDoor
