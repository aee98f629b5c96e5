/- Texts merged: SFrame, SErr, SJumpT, SJump, SNext, SBelowT, SBelow. -/
import Derived.Test.YtpalajfcffdhoaaGreatEng4
import Derived.Test.YtpalajfcffdhoaaGreatRows
/- What a row asks behind a call that leaves all that was there as it was: the engine's Frame. -/

/- Chapter 3: what the functions of the generator answer where a state or a bound is not right; the comparison of two numbers; the seed's state. -/
namespace Go.Proofs.YtpalajfcffdhoaaGreat.N3
open Go Go.Eng

noncomputable def ftab : FTab := fun i => Tryz.prog.funcs[i]?
theorem ftab_ok : FTabOk Tryz.prog ftab := fun _ _ h => h
theorem mixed : Tryz.prog.follows .mixedOrders = true := by kernel_rfl
def never : FuncId → Bool := fun _ => false
noncomputable abbrev orc (T : PTab) (LL : FuncId → Loops) : Oracle := inl Tryz.prog ftab T LL 100 never never (oracleOf emptyTab) 20
noncomputable abbrev evalAt (T : PTab) (LL : FuncId → Loops) (f : FuncId) (fn : Func) (args : List V) : Option V :=
  evalFn Tryz.prog (orc T LL) (LL f) 100 f fn args [] (fun v _ => some v)
theorem pure_at {T : PTab} (hT : PTabOk Tryz.prog T) {LL : FuncId → Loops} (hL : ∀ f, loopsOk Tryz.prog (LL f)) {f : FuncId} {fn : Func} {args : List V} {v : V} (hf : Tryz.prog.funcs[f]? = some fn) (hb : enterB fn = true)
    (h : evalAt T LL f fn args = some v) (ha : plainVs args = true) (hv : plainV v = true) : FnPure Tryz.prog f args v :=
  fnPure_of_eval (inl_ok (oracleOf_ok emptyTab_ok) ftab_ok hT hL mixed 20) mixed hf hb (hL f) h ha hv

def plainL : FuncId → Loops := fun _ => noLoops
theorem plainL_ok : ∀ f, loopsOk Tryz.prog (plainL f) := fun _ => noLoops_ok

/-! ### a right state; the seed's state; two numbers -/
def rightB (s : Int) : Bool := decide (1 ≤ s) && decide (s ≤ 2147483646)
def ofI (n : Int) : Int := bif decide (n.tmod 2147483646 < 0) then wr .i64 (1 + wr .i64 (n.tmod 2147483646 + 2147483646)) else wr .i64 (1 + n.tmod 2147483646)
def cmpI (a0 a1 a2 a3 b0 b1 b2 b3 : Int) : Int :=
  bif decide (a3 < b3) then -1 else bif decide (b3 < a3) then 1 else bif decide (a2 < b2) then -1 else bif decide (b2 < a2) then 1 else
  bif decide (a1 < b1) then -1 else bif decide (b1 < a1) then 1 else bif decide (a0 < b0) then -1 else bif decide (b0 < a0) then 1 else 0

theorem right_eval (s : Int) : evalAt emptyTab plainL 9 Tryz.f9 [.int .i64 s] = bif decide (1 ≤ s) then some (.bool (decide (s ≤ 2147483646))) else some (.bool false) := by kernel_rfl
theorem right_pure (s : Int) : FnPure Tryz.prog 9 [.int .i64 s] (.bool (rightB s)) := by
  refine pure_at emptyTab_ok plainL_ok Tryz.func9 (by kernel_rfl) ?_ rfl rfl
  rw [right_eval, rightB]
  cases decide (1 ≤ s) <;> rfl
theorem cmp_eval (a0 a1 a2 a3 b0 b1 b2 b3 : Int) : evalAt emptyTab plainL 26 Tryz.f26 [.agg [.int .u32 a0, .int .u32 a1, .int .u32 a2, .int .u32 a3], .agg [.int .u32 b0, .int .u32 b1, .int .u32 b2, .int .u32 b3]] =
    bif decide (a3 < b3) then some (.int .i64 (-1)) else bif decide (b3 < a3) then some (.int .i64 1) else bif decide (a2 < b2) then some (.int .i64 (-1)) else bif decide (b2 < a2) then some (.int .i64 1) else
    bif decide (a1 < b1) then some (.int .i64 (-1)) else bif decide (b1 < a1) then some (.int .i64 1) else bif decide (a0 < b0) then some (.int .i64 (-1)) else bif decide (b0 < a0) then some (.int .i64 1) else some (.int .i64 0) := by kernel_rfl
theorem some_bif {b : Bool} {x y : Int} {k : IntKind} : (bif b then some (V.int k x) else some (V.int k y)) = some (V.int k (bif b then x else y)) := by cases b <;> rfl
theorem cmp_pure (a0 a1 a2 a3 b0 b1 b2 b3 : Int) : FnPure Tryz.prog 26 [.agg [.int .u32 a0, .int .u32 a1, .int .u32 a2, .int .u32 a3], .agg [.int .u32 b0, .int .u32 b1, .int .u32 b2, .int .u32 b3]] (.int .i64 (cmpI a0 a1 a2 a3 b0 b1 b2 b3)) := by
  refine pure_at emptyTab_ok plainL_ok Tryz.func26 (by kernel_rfl) ?_ rfl rfl
  rw [cmp_eval]
  simp only [some_bif, cmpI]
def gAwake : List V → Option (Bool × V)
  | [] => some (true, .bool true)
  | _ => none
def gOf : List V → Option (Bool × V)
  | [.int .i64 n] => some (true, .int .i64 (ofI n))
  | _ => none
def gRight : List V → Option (Bool × V)
  | [.int .i64 s] => some (true, .bool (rightB s))
  | _ => none
def gCmp : List V → Option (Bool × V)
  | [.agg [.int .u32 a0, .int .u32 a1, .int .u32 a2, .int .u32 a3], .agg [.int .u32 b0, .int .u32 b1, .int .u32 b2, .int .u32 b3]] => some (true, .int .i64 (cmpI a0 a1 a2 a3 b0 b1 b2 b3))
  | _ => none
def tab1 : PTab := addTab 9 gRight (addTab 26 gCmp emptyTab)
theorem gRight_ok : ∀ args c v, gRight args = some (c, v) → c = true → FnPure Tryz.prog 9 args v := by
  intro args c v h _
  unfold gRight at h
  split at h
  · cases h; exact right_pure _
  · cases h
theorem gCmp_ok : ∀ args c v, gCmp args = some (c, v) → c = true → FnPure Tryz.prog 26 args v := by
  intro args c v h _
  unfold gCmp at h
  split at h
  · cases h; exact cmp_pure _ _ _ _ _ _ _ _
  · cases h
theorem tab1_ok : PTabOk Tryz.prog tab1 := addTab_ok gRight_ok (addTab_ok gCmp_ok emptyTab_ok)

/-! ### what is not right is rejected -/
def errL : FuncId → Loops := fun f => match f with
  | 11 => decs (fun r => match r with | 2 => some true | _ => none)
  | _ => noLoops
theorem errL_ok : ∀ f, loopsOk Tryz.prog (errL f) := fun f => by
  unfold errL
  split <;> first | exact decs_ok | exact noLoops_ok
def belowB (s n : Int) : Bool := !rightB s || (decide (n < 1) || decide (2147483646 < n))
def zeroB (m0 m1 m2 m3 : Int) : Bool := decide (m0 = 0) && (decide (m1 = 0) && (decide (m2 = 0) && (decide (m3 = 0) && true)))
def natB (s m0 m1 m2 m3 : Int) : Bool := !rightB s || (zeroB m0 m1 m2 m3 || decide (0 < cmpI m0 m1 m2 m3 0 0 0 16777216))
def err3 : V := .tuple [.int .i64 0, .int .i64 0, .int .i64 2]
def err2 : V := .tuple [.int .i64 0, .int .i64 2]
def errN : V := .tuple [.int .i64 0, .agg [.int .u32 0, .int .u32 0, .int .u32 0, .int .u32 0], .int .i64 2]

theorem nat_eval (s m0 m1 m2 m3 : Int) : evalAt tab1 errL 11 Tryz.f11 [.int .i64 s, .agg [.int .u32 m0, .int .u32 m1, .int .u32 m2, .int .u32 m3]] =
    bif !rightB s then some errN else bif zeroB m0 m1 m2 m3 then some errN else bif decide (0 < cmpI m0 m1 m2 m3 0 0 0 16777216) then some errN else none := by kernel_rfl
theorem nat_err {s m0 m1 m2 m3 : Int} (h : natB s m0 m1 m2 m3 = true) : FnPure Tryz.prog 11 [.int .i64 s, .agg [.int .u32 m0, .int .u32 m1, .int .u32 m2, .int .u32 m3]] errN := by
  refine pure_at tab1_ok errL_ok Tryz.func11 (by kernel_rfl) ?_ rfl rfl
  rw [nat_eval]
  unfold natB at h
  cases h1 : !rightB s with
  | true => rfl
  | false =>
    cases h2 : zeroB m0 m1 m2 m3 with
    | true => rfl
    | false =>
      rw [h1, h2, Bool.false_or, Bool.false_or] at h
      rw [h]; rfl

def gNextE : List V → Option (Bool × V)
  | [.int .i64 s] => some (!rightB s, err3)
  | _ => none
def gJumpE : List V → Option (Bool × V)
  | [.int .i64 s, .int .i64 _] => some (!rightB s, err2)
  | _ => none
def gBelowE : List V → Option (Bool × V)
  | [.int .i64 s, .int .i64 n] => some (belowB s n, err3)
  | _ => none
def gNatE : List V → Option (Bool × V)
  | [.int .i64 s, .agg [.int .u32 m0, .int .u32 m1, .int .u32 m2, .int .u32 m3]] => some (natB s m0 m1 m2 m3, errN)
  | _ => none
end Go.Proofs.YtpalajfcffdhoaaGreat.N3

/- Chapter 3: the states of the loop in which the powers are yielded to Jump. -/
namespace Go.Proofs.YtpalajfcffdhoaaGreat.N3
open Go Go.Eng

def u : TV := .tuple []
def o : Option TV := none
def jumpC (s k s2 : Int) (b1 b2 : Bool) (s3 k2 r : Int) : List PV := [.i s, .i k, .i s2, .b b1, .b b2, .i s3, .i k2, .i r]
def jumpP (p l a : Int) (c : List PV) : List PV := .i p :: .i l :: .i a :: c
end Go.Proofs.YtpalajfcffdhoaaGreat.N3

/- Chapter 3: what Jump answers, for all states and numbers of steps. -/
namespace Go.Proofs.YtpalajfcffdhoaaGreat.N3
open Go Go.Eng

def mulP (a b : Int) : Int := (wr .i64 (a * b)).tmod 2147483647
def jumpR (p l a : Int) : Int := if h : 0 < l then jumpR (mulP p p) (l / 2) (bif decide (l.tmod 2 = 1) then mulP a p else a) else a
termination_by l.toNat
decreasing_by omega

theorem codes2 {a b : Code} : codesOk [(a, a), (b, b)] := by intro x hx; simp at hx; rcases hx with rfl | rfl <;> rfl
theorem wr64 {x : Int} (h1 : -9223372036854775808 ≤ x) (h2 : x < 9223372036854775808) : wr .i64 x = x := by
  simp only [wr, sgn]
  cases h : decide (9223372036854775808 ≤ x % 18446744073709551616) with
  | true => simp only [decide_eq_true_eq] at h; simp only [cond_true]; omega
  | false => simp only [decide_eq_false_iff_not] at h; simp only [cond_false]; omega
theorem tdiv2 {l : Int} (h : 0 ≤ l) : l.tdiv 2 = l / 2 := Int.tdiv_eq_ediv_of_nonneg h

def jumpInv : List PV → Bool
  | [.i _, .i l, .i _, .i _, .i _, .i _, .b _, .b _, .i _, .i _, .i _] => decide (l < 9223372036854775808)
  | _ => false
/-! ### the remainder; the jump -/
def restI (n : Int) : Int := bif decide (n.tmod 2147483646 < 0) then wr .i64 (n.tmod 2147483646 + 2147483646) else n.tmod 2147483646
def gRest : List V → Option (Bool × V)
  | [.int .i64 n] => some (true, .int .i64 (restI n))
  | _ => none
def jumpI (s k : Int) : Int := bif rightB s then jumpR 48271 (restI k) s else 0
def errI (b : Bool) : Int := bif b then 0 else 2
theorem rest_small (n : Int) : 0 ≤ restI n ∧ restI n < 2147483646 := by
  have h2 := Int.tmod_lt_of_pos n (show (0 : Int) < 2147483646 by omega)
  have h3 : -2147483646 < n.tmod 2147483646 := by
    rcases Int.le_total 0 n with h | h
    · have := Int.tmod_nonneg 2147483646 h; omega
    · have h4 := Int.tmod_lt_of_pos (-n) (show (0 : Int) < 2147483646 by omega)
      rw [Int.neg_tmod] at h4
      omega
  unfold restI
  generalize n.tmod 2147483646 = t at *
  cases h : decide (t < 0) with
  | true =>
    simp only [decide_eq_true_eq] at h
    rw [cond_true, wr64 (by omega) (by omega)]
    omega
  | false =>
    simp only [decide_eq_false_iff_not] at h
    rw [cond_false]
    omega
end Go.Proofs.YtpalajfcffdhoaaGreat.N3

/- Chapter 3: what Next answers, for all states. -/
namespace Go.Proofs.YtpalajfcffdhoaaGreat.N3
open Go Go.Eng
def nextS (s : Int) : Int := bif rightB s then mulP s 48271 else 0
def nextV (s : Int) : Int := bif rightB s then wr .i64 (mulP s 48271 - 1) else 0
def gJump : List V → Option (Bool × V)
  | [.int .i64 s, .int .i64 k] => some (true, .tuple [.int .i64 (jumpI s k), .int .i64 (errI (rightB s))])
  | _ => none
def gNext : List V → Option (Bool × V)
  | [.int .i64 s] => some (true, .tuple [.int .i64 (nextS s), .int .i64 (nextV s), .int .i64 (errI (rightB s))])
  | _ => none
end Go.Proofs.YtpalajfcffdhoaaGreat.N3

/- Chapter 3: the states of the loop in which Below draws. -/
namespace Go.Proofs.YtpalajfcffdhoaaGreat.N3
open Go Go.Eng
def belowT : Tm := ⟨[some (.func 34 [.ptr 0 0]), some (.func 36 [.ptr 1 0]), o, o, o, some (.int .i64), o, o, some (.int .i64), o, o, o, o, o, o, o, o], [.own 25 (.vs [.int .i64]), .own 3 (.vs [.int .i64])], []⟩
def belowX : Tm := ⟨[o, o, o, o, o, some (.int .i64), o, o, o, o, o, o, o, o, o, o, o], [.own 25 (.vs [.int .i64]), .own 3 (.vs [.int .i64])], []⟩
end Go.Proofs.YtpalajfcffdhoaaGreat.N3

/- Chapter 3: what Below answers, for all states and bounds. -/
namespace Go.Proofs.YtpalajfcffdhoaaGreat.N3
open Go Go.Eng

/-- The value and the state after at most so many tries more. -/
def belowR : Nat → Int → Int → Int → Int × Int
  | 0, v, s, _ => (v, s)
  | n + 1, v, s, m => bif decide (v < m) then (v, s) else belowR n (wr .i64 (mulP s 48271 - 1)) (mulP s 48271) m
theorem codes0 : codesOk [] := fun _ h => by cases h
def belowInv : List PV → Bool
  | [.i _, .i i, .i _, .i _] => decide (i = 0)
  | _ => false
def belowFin : List PV → XE × AS
  | [.i v, .i _, .i s, .i m] => (.exit 0, belowX.at [.i (belowR 100 v s m).1, .i (belowR 100 v s m).2, .i m])
  | _ => (.ret, ⟨[], [], []⟩)
def mostI (n : Int) : Int := wr .i64 (2147483646 - (2147483646 : Int).tmod n)
/-- What is drawn: the value below the greatest multiple, and the state. -/
def drawn (s n : Int) : Int × Int := belowR 100 (wr .i64 (mulP s 48271 - 1)) (mulP s 48271) (mostI n)
def belowS (s n : Int) : Int := bif belowB s n then 0 else (drawn s n).2
def belowV (s n : Int) : Int := bif belowB s n then 0 else (drawn s n).1.tmod n
def gBelow : List V → Option (Bool × V)
  | [.int .i64 s, .int .i64 n] => some (true, .tuple [.int .i64 (belowS s n), .int .i64 (belowV s n), .int .i64 (errI (!belowB s n))])
  | _ => none
end Go.Proofs.YtpalajfcffdhoaaGreat.N3
