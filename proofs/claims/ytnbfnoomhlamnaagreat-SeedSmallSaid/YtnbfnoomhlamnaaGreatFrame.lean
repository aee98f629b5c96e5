/- Texts merged: Frame, Err. -/
import Derived.Test.YtnbfnoomhlamnaaGreatEng4
import Derived.Test.YtnbfnoomhlamnaaGreatRows
/- What a row asks behind a call that leaves all that was there as it was: the engine's Frame. -/

/- Chapter 3: what the functions of the generator answer where a state or a bound is not right; the comparison of two numbers; the seed's state. -/
namespace Go.Proofs.YtnbfnoomhlamnaaGreat
open Go Go.Eng

noncomputable def ftab : FTab := fun i => Tryz.prog.funcs[i]?
theorem ftab_ok : FTabOk Tryz.prog ftab := fun _ _ h => h
theorem mixed : Tryz.prog.follows .mixedOrders = true := by kernel_rfl
def never : FuncId → Bool := fun _ => false
noncomputable abbrev orc (T : PTab) (LL : FuncId → Loops) : Oracle := inl Tryz.prog ftab T LL 100 never never (oracleOf emptyTab) 20
noncomputable abbrev evalAt (T : PTab) (LL : FuncId → Loops) (f : FuncId) (fn : Func) (args : List V) : Option V :=
  evalFn Tryz.prog (orc T LL) (LL f) 100 f fn args [] (fun v _ => some v)
theorem pure_at {T : PTab} (hT : PTabOk Tryz.prog T) {LL : FuncId → Loops} (hL : ∀ f, loopsOk Tryz.prog (LL f)) {f : FuncId} {fn : Func} {args : List V} {v : V} (hf : Tryz.prog.funcs[f]? = some fn) (hb : enterB fn = true)
    (h : evalAt T LL f fn args = some v) (ha : plainVs args = true) (hv : plainV v = true) : FnPure Tryz.prog f args v :=
  fnPure_of_eval (inl_ok (oracleOf_ok emptyTab_ok) ftab_ok hT hL mixed 20) mixed hf hb (hL f) h ha hv

def plainL : FuncId → Loops := fun _ => noLoops
theorem plainL_ok : ∀ f, loopsOk Tryz.prog (plainL f) := fun _ => noLoops_ok

/-! ### a right state; the seed's state; two numbers -/
def rightB (s : Int) : Bool := decide (1 ≤ s) && decide (s ≤ 2147483646)
def ofI (n : Int) : Int := bif decide (n.tmod 2147483646 < 0) then wr .i64 (1 + wr .i64 (n.tmod 2147483646 + 2147483646)) else wr .i64 (1 + n.tmod 2147483646)
def cmpI (a0 a1 a2 a3 b0 b1 b2 b3 : Int) : Int :=
  bif decide (a3 < b3) then -1 else bif decide (b3 < a3) then 1 else bif decide (a2 < b2) then -1 else bif decide (b2 < a2) then 1 else
  bif decide (a1 < b1) then -1 else bif decide (b1 < a1) then 1 else bif decide (a0 < b0) then -1 else bif decide (b0 < a0) then 1 else 0

theorem right_eval (s : Int) : evalAt emptyTab plainL 25 Tryz.f25 [.int .i64 s] = bif decide (1 ≤ s) then some (.bool (decide (s ≤ 2147483646))) else some (.bool false) := by kernel_rfl
theorem right_pure (s : Int) : FnPure Tryz.prog 25 [.int .i64 s] (.bool (rightB s)) := by
  refine pure_at emptyTab_ok plainL_ok Tryz.func25 (by kernel_rfl) ?_ rfl rfl
  rw [right_eval, rightB]
  cases decide (1 ≤ s) <;> rfl
theorem of_eval (n : Int) : evalAt emptyTab plainL 5 Tryz.f5 [.int .i64 n] = bif decide (n.tmod 2147483646 < 0) then some (.int .i64 (wr .i64 (1 + wr .i64 (n.tmod 2147483646 + 2147483646)))) else some (.int .i64 (wr .i64 (1 + n.tmod 2147483646))) := by kernel_rfl
theorem of_pure (n : Int) : FnPure Tryz.prog 5 [.int .i64 n] (.int .i64 (ofI n)) := by
  refine pure_at emptyTab_ok plainL_ok Tryz.func5 (by kernel_rfl) ?_ rfl rfl
  rw [of_eval, ofI]
  cases decide (n.tmod 2147483646 < 0) <;> rfl
theorem cmp_eval (a0 a1 a2 a3 b0 b1 b2 b3 : Int) : evalAt emptyTab plainL 16 Tryz.f16 [.agg [.int .u32 a0, .int .u32 a1, .int .u32 a2, .int .u32 a3], .agg [.int .u32 b0, .int .u32 b1, .int .u32 b2, .int .u32 b3]] =
    bif decide (a3 < b3) then some (.int .i64 (-1)) else bif decide (b3 < a3) then some (.int .i64 1) else bif decide (a2 < b2) then some (.int .i64 (-1)) else bif decide (b2 < a2) then some (.int .i64 1) else
    bif decide (a1 < b1) then some (.int .i64 (-1)) else bif decide (b1 < a1) then some (.int .i64 1) else bif decide (a0 < b0) then some (.int .i64 (-1)) else bif decide (b0 < a0) then some (.int .i64 1) else some (.int .i64 0) := by kernel_rfl
theorem some_bif {b : Bool} {x y : Int} {k : IntKind} : (bif b then some (V.int k x) else some (V.int k y)) = some (V.int k (bif b then x else y)) := by cases b <;> rfl
theorem cmp_pure (a0 a1 a2 a3 b0 b1 b2 b3 : Int) : FnPure Tryz.prog 16 [.agg [.int .u32 a0, .int .u32 a1, .int .u32 a2, .int .u32 a3], .agg [.int .u32 b0, .int .u32 b1, .int .u32 b2, .int .u32 b3]] (.int .i64 (cmpI a0 a1 a2 a3 b0 b1 b2 b3)) := by
  refine pure_at emptyTab_ok plainL_ok Tryz.func16 (by kernel_rfl) ?_ rfl rfl
  rw [cmp_eval]
  simp only [some_bif, cmpI]
theorem awake_pure : FnPure Tryz.prog 12 [] (.bool true) :=
  pure_at emptyTab_ok plainL_ok Tryz.func12 (by kernel_rfl) (by kernel_rfl) rfl rfl

def gAwake : List V → Option (Bool × V)
  | [] => some (true, .bool true)
  | _ => none
def gOf : List V → Option (Bool × V)
  | [.int .i64 n] => some (true, .int .i64 (ofI n))
  | _ => none
def gRight : List V → Option (Bool × V)
  | [.int .i64 s] => some (true, .bool (rightB s))
  | _ => none
def gCmp : List V → Option (Bool × V)
  | [.agg [.int .u32 a0, .int .u32 a1, .int .u32 a2, .int .u32 a3], .agg [.int .u32 b0, .int .u32 b1, .int .u32 b2, .int .u32 b3]] => some (true, .int .i64 (cmpI a0 a1 a2 a3 b0 b1 b2 b3))
  | _ => none
def tab1 : PTab := addTab 25 gRight (addTab 5 gOf (addTab 16 gCmp (addTab 12 gAwake emptyTab)))
theorem gAwake_ok : ∀ args c v, gAwake args = some (c, v) → c = true → FnPure Tryz.prog 12 args v := by
  intro args c v h _
  unfold gAwake at h
  split at h
  · cases h; exact awake_pure
  · cases h
theorem gOf_ok : ∀ args c v, gOf args = some (c, v) → c = true → FnPure Tryz.prog 5 args v := by
  intro args c v h _
  unfold gOf at h
  split at h
  · cases h; exact of_pure _
  · cases h
theorem gRight_ok : ∀ args c v, gRight args = some (c, v) → c = true → FnPure Tryz.prog 25 args v := by
  intro args c v h _
  unfold gRight at h
  split at h
  · cases h; exact right_pure _
  · cases h
theorem gCmp_ok : ∀ args c v, gCmp args = some (c, v) → c = true → FnPure Tryz.prog 16 args v := by
  intro args c v h _
  unfold gCmp at h
  split at h
  · cases h; exact cmp_pure _ _ _ _ _ _ _ _
  · cases h
theorem tab1_ok : PTabOk Tryz.prog tab1 := addTab_ok gRight_ok (addTab_ok gOf_ok (addTab_ok gCmp_ok (addTab_ok gAwake_ok emptyTab_ok)))

/-! ### what is not right is rejected -/
def errL : FuncId → Loops := fun f => match f with
  | 19 | 10 | 21 | 11 | 23 => decs (fun r => match r with | 2 => some true | _ => none)
  | _ => noLoops
theorem errL_ok : ∀ f, loopsOk Tryz.prog (errL f) := fun f => by
  unfold errL
  split <;> first | exact decs_ok | exact noLoops_ok
def belowB (s n : Int) : Bool := !rightB s || (decide (n < 1) || decide (2147483646 < n))
def zeroB (m0 m1 m2 m3 : Int) : Bool := decide (m0 = 0) && (decide (m1 = 0) && (decide (m2 = 0) && (decide (m3 = 0) && true)))
def natB (s m0 m1 m2 m3 : Int) : Bool := !rightB s || (zeroB m0 m1 m2 m3 || decide (0 < cmpI m0 m1 m2 m3 0 0 0 16777216))
def err3 : V := .tuple [.int .i64 0, .int .i64 0, .int .i64 2]
def err2 : V := .tuple [.int .i64 0, .int .i64 2]
def errN : V := .tuple [.int .i64 0, .agg [.int .u32 0, .int .u32 0, .int .u32 0, .int .u32 0], .int .i64 2]

theorem next_eval (s : Int) : evalAt tab1 errL 10 Tryz.f10 [.int .i64 s] = bif !rightB s then some err3 else none := by kernel_rfl
theorem next_err {s : Int} (h : (!rightB s) = true) : FnPure Tryz.prog 10 [.int .i64 s] err3 := by
  refine pure_at tab1_ok errL_ok Tryz.func10 (by kernel_rfl) ?_ rfl rfl
  rw [next_eval, h]; rfl
theorem jump_eval (s k : Int) : evalAt tab1 errL 19 Tryz.f19 [.int .i64 s, .int .i64 k] = bif !rightB s then some err2 else none := by kernel_rfl
theorem jump_err {s k : Int} (h : (!rightB s) = true) : FnPure Tryz.prog 19 [.int .i64 s, .int .i64 k] err2 := by
  refine pure_at tab1_ok errL_ok Tryz.func19 (by kernel_rfl) ?_ rfl rfl
  rw [jump_eval, h]; rfl
theorem below_eval (s n : Int) : evalAt tab1 errL 21 Tryz.f21 [.int .i64 s, .int .i64 n] = bif !rightB s then some err3 else bif decide (n < 1) then some err3 else bif decide (2147483646 < n) then some err3 else none := by kernel_rfl
theorem below_err {s n : Int} (h : belowB s n = true) : FnPure Tryz.prog 21 [.int .i64 s, .int .i64 n] err3 := by
  refine pure_at tab1_ok errL_ok Tryz.func21 (by kernel_rfl) ?_ rfl rfl
  rw [below_eval]
  unfold belowB at h
  cases h1 : !rightB s with
  | true => rfl
  | false =>
    cases h2 : decide (n < 1) with
    | true => rfl
    | false =>
      rw [h1, h2, Bool.false_or, Bool.false_or] at h
      rw [h]; rfl
theorem nat_eval (s m0 m1 m2 m3 : Int) : evalAt tab1 errL 23 Tryz.f23 [.int .i64 s, .agg [.int .u32 m0, .int .u32 m1, .int .u32 m2, .int .u32 m3]] =
    bif !rightB s then some errN else bif zeroB m0 m1 m2 m3 then some errN else bif decide (0 < cmpI m0 m1 m2 m3 0 0 0 16777216) then some errN else none := by kernel_rfl
theorem nat_err {s m0 m1 m2 m3 : Int} (h : natB s m0 m1 m2 m3 = true) : FnPure Tryz.prog 23 [.int .i64 s, .agg [.int .u32 m0, .int .u32 m1, .int .u32 m2, .int .u32 m3]] errN := by
  refine pure_at tab1_ok errL_ok Tryz.func23 (by kernel_rfl) ?_ rfl rfl
  rw [nat_eval]
  unfold natB at h
  cases h1 : !rightB s with
  | true => rfl
  | false =>
    cases h2 : zeroB m0 m1 m2 m3 with
    | true => rfl
    | false =>
      rw [h1, h2, Bool.false_or, Bool.false_or] at h
      rw [h]; rfl

def gNextE : List V → Option (Bool × V)
  | [.int .i64 s] => some (!rightB s, err3)
  | _ => none
def gJumpE : List V → Option (Bool × V)
  | [.int .i64 s, .int .i64 _] => some (!rightB s, err2)
  | _ => none
def gBelowE : List V → Option (Bool × V)
  | [.int .i64 s, .int .i64 n] => some (belowB s n, err3)
  | _ => none
def gNatE : List V → Option (Bool × V)
  | [.int .i64 s, .agg [.int .u32 m0, .int .u32 m1, .int .u32 m2, .int .u32 m3]] => some (natB s m0 m1 m2 m3, errN)
  | _ => none
def tabE : PTab := addTab 10 gNextE (addTab 19 gJumpE (addTab 21 gBelowE (addTab 23 gNatE tab1)))
theorem tabE_ok : PTabOk Tryz.prog tabE := by
  refine addTab_ok ?_ (addTab_ok ?_ (addTab_ok ?_ (addTab_ok ?_ tab1_ok)))
  · intro args c v h hc
    unfold gNextE at h
    split at h
    · cases h; exact next_err hc
    · cases h
  · intro args c v h hc
    unfold gJumpE at h
    split at h
    · cases h; exact jump_err hc
    · cases h
  · intro args c v h hc
    unfold gBelowE at h
    split at h
    · cases h; exact below_err hc
    · cases h
  · intro args c v h hc
    unfold gNatE at h
    split at h
    · cases h; exact nat_err hc
    · cases h
end Go.Proofs.YtnbfnoomhlamnaaGreat
