/- Texts merged: Shuf2, Shuf3. -/
import Derived.Test.YtnbfnoomhlamnaaGreatPow
/- Chapter 3: what Shuffle answers for right states and lists that are not too long. -/
namespace Go.Proofs.YtnbfnoomhlamnaaGreat
open Go Go.Eng

def shufInv : List PV → Bool
  | [.i s, .i i, .l _, .l ys] => rightB s && decide (-1 ≤ i ∧ i < (ys.length : Int) ∧ ys.length ≤ 10000)
  | _ => false
def shufFin (nn : Bool) : List PV → XE × AS
  | [.i s, .i i, .l xs, .l ys] => (.exit 0, (shufX nn).at [.i (shufR i.toNat s ys).1, .l xs, .l (shufR i.toNat s ys).2])
  | _ => (.ret, ⟨[], [], []⟩)
def shufTree (nn : Bool) (ps : List PV) : Fin := .br (shufInv ps) (.leaf (shufFin nn ps).1 (shufFin nn ps).2) .no
noncomputable def shufSum : LoopSum := lsumE 1 (shufT true) shufLp (shufTree true) (lsumF 1 (shufT false) shufLp (shufTree false))
theorem shuf_tree (nn : Bool) (rd : Option Nat) (ps : List PV) (e : XE) (s : AS) (h : (shufTree nn ps).pick = some (e, s)) : SimC Tryz.prog 1 rd (.loop shufLp) ((shufT nn).at ps) e s := by
  simp only [shufTree, Fin.pick] at h
  cases hi : shufInv ps with
  | false => rw [hi] at h; cases h
  | true =>
    rw [hi, cond_true] at h
    cases h
    unfold shufInv at hi
    split at hi
    · simp only [Bool.and_eq_true, decide_eq_true_eq] at hi
      exact shuf_loop nn rd _ (_, _, _) ⟨hi.1, hi.2.1, hi.2.2.1, hi.2.2.2⟩
    · cases hi
theorem shufSum_ok : LoopOk Tryz.prog shufSum := lsumE_ok (by kernel_rfl) (shuf_tree true) (lsumF_ok (by kernel_rfl) (shuf_tree false))
noncomputable def shufL : FuncId → Loops := fun f => match f with
  | 11 => sums (fun n => match n with | 7 => some shufSum | _ => none)
  | _ => noLoops
theorem shufL_ok : ∀ f, loopsOk Tryz.prog (shufL f) := fun f => by
  unfold shufL
  split
  · intro n g hg
    simp only [sums] at hg
    split at hg
    · cases hg; exact shufSum_ok
    · cases hg
  · exact noLoops_ok
noncomputable abbrev evalH (T : PTab) (LL : FuncId → Loops) (f : FuncId) (fn : Func) (args : List V) (h : List Blk) : Option (V × List Blk) :=
  evalFn Tryz.prog (orc T LL) (LL f) 100 f fn args h (fun v h => some (v, h))
theorem fn_at {T : PTab} (hT : PTabOk Tryz.prog T) {LL : FuncId → Loops} (hL : ∀ f, loopsOk Tryz.prog (LL f)) {f : FuncId} {fn : Func} {args : List V} {h h' : List Blk} {v : V} (hf : Tryz.prog.funcs[f]? = some fn)
    (he : evalH T LL f fn args h = some (v, h')) : FnOK Tryz.prog f args h v h' := by
  obtain ⟨v1, h1, hk, hok⟩ := evalFn_ok (inl_ok (oracleOf_ok emptyTab_ok) ftab_ok hT hL mixed 20) mixed hf (hL f) he
  cases hk
  exact hok
def lastI (xs : List Int) : Int := wr .i64 ((xs.length : Int) - 1)
theorem shuf_all (nn : Bool) (s : Int) (xs : List Int) : evalH tab4 shufL 11 Tryz.f11 [.int .i64 s, .gs 0] [.rs nn 1 (.ints .i64 xs)] =
    bif !rightB s then some (.tuple [.int .i64 0, .flat (.slice none 0 0), .int .i64 2], [.rs nn 1 (.ints .i64 xs)]) else
    bif decide (10000 < Int.ofNat xs.length) then some (.tuple [.int .i64 0, .flat (.slice none 0 0), .int .i64 5], [.rs nn 1 (.ints .i64 xs)]) else
    bif nnB (.rs nn 1 (.ints .i64 xs)) then
    bif decide (xs.length * 9 ≤ 70368744177664) then
      cond (codesB [(shufLp, shufLp)]) (cond (rightB s && decide (-1 ≤ lastI xs ∧ lastI xs < (xs.length : Int) ∧ xs.length ≤ 10000))
        (some (.tuple [.int .i64 (shufR (lastI xs).toNat s xs).1, .gs 1, .int .i64 0], [.rs nn 1 (.ints .i64 xs), .grow true 3 1 (.ints .i64 (shufR (lastI xs).toNat s xs).2)])) none) none
    else none else none := by cases nn <;> kernel_rfl
theorem shuf_fn {nn : Bool} {s : Int} {xs : List Int} (hnn : nnB (.rs nn 1 (.ints .i64 xs)) = true) (h : rightB s = true) (hl : xs.length ≤ 10000) :
    FnOK Tryz.prog 11 [.int .i64 s, .gs 0] [.rs nn 1 (.ints .i64 xs)] (.tuple [.int .i64 (shufR (xs.length - 1) s xs).1, .gs 1, .int .i64 0]) ([.rs nn 1 (.ints .i64 xs)] ++ [.grow true 3 1 (.ints .i64 (shufR (xs.length - 1) s xs).2)]) := by
  refine fn_at tab4_ok shufL_ok Tryz.func11 ?_
  rw [shuf_all, h, hnn]
  have e : lastI xs = (xs.length : Int) - 1 := wr64 (by omega) (by omega)
  have e2 : (lastI xs).toNat = xs.length - 1 := by rw [e]; omega
  have hc : codesB [(shufLp, shufLp)] = true := by rw [codesB_iff]; intro x hx; simp at hx; rw [hx]
  have d1 : decide (10000 < Int.ofNat xs.length) = false := decide_eq_false (by show ¬ (10000 : Int) < (xs.length : Int); omega)
  have d2 : decide (xs.length * 9 ≤ 70368744177664) = true := decide_eq_true (by omega)
  have d3 : decide (-1 ≤ lastI xs ∧ lastI xs < (xs.length : Int) ∧ xs.length ≤ 10000) = true := decide_eq_true ⟨by omega, by omega, hl⟩
  rw [d1, d2, d3, hc, e2]
  rfl
theorem shuf_nil (s : Int) : evalH tab4 plainL 11 Tryz.f11 [.int .i64 s, .flat (.slice none 0 0)] [] =
    bif !rightB s then some (.tuple [.int .i64 0, .flat (.slice none 0 0), .int .i64 2], []) else some (.tuple [.int .i64 s, .flat (.slice none 0 0), .int .i64 0], []) := by kernel_rfl
theorem shuf_fn_nil {s : Int} (h : rightB s = true) : FnOK Tryz.prog 11 [.int .i64 s, .flat (.slice none 0 0)] [] (.tuple [.int .i64 s, .flat (.slice none 0 0), .int .i64 0]) [] := by
  refine fn_at tab4_ok plainL_ok Tryz.func11 ?_
  rw [shuf_nil, h]
  rfl
theorem shuf_zero (s : Int) (a : Addr) : evalH tab4 plainL 11 Tryz.f11 [.int .i64 s, .flat (.slice (some a) 0 0)] [] =
    bif !rightB s then some (.tuple [.int .i64 0, .flat (.slice none 0 0), .int .i64 2], []) else some (.tuple [.int .i64 s, .gs 1, .int .i64 0], [.dead, .grow true 3 1 (.vs [])]) := by kernel_rfl
theorem shuf_fn_zero {s : Int} {a : Addr} (h : rightB s = true) : FnOK Tryz.prog 11 [.int .i64 s, .flat (.slice (some a) 0 0)] [] (.tuple [.int .i64 s, .gs 1, .int .i64 0]) [.dead, .grow true 3 1 (.vs [])] := by
  refine fn_at tab4_ok plainL_ok Tryz.func11 ?_
  rw [shuf_zero, h]
  rfl
end Go.Proofs.YtnbfnoomhlamnaaGreat

/- Chapter 3: Shuffle's contract in a table. -/
namespace Go.Proofs.YtnbfnoomhlamnaaGreat
open Go Go.Eng
def gShuf : List V → List Blk → Option (Bool × V × List Blk)
  | [.int .i64 s, .gs 0], [.rs nn 1 (.ints .i64 xs)] => some (nnB (.rs nn 1 (.ints .i64 xs)) && (rightB s && decide (xs.length ≤ 10000)), .tuple [.int .i64 (shufR (xs.length - 1) s xs).1, .gs 1, .int .i64 0], [.grow true 3 1 (.ints .i64 (shufR (xs.length - 1) s xs).2)])
  | [.int .i64 s, .flat (.slice none 0 0)], [] => some (rightB s, .tuple [.int .i64 s, .flat (.slice none 0 0), .int .i64 0], [])
  | [.int .i64 s, .flat (.slice (some _) 0 0)], [] => some (rightB s, .tuple [.int .i64 s, .gs 1, .int .i64 0], [.dead, .grow true 3 1 (.vs [])])
  | _, _ => none
def hTab : HTab := addH 11 gShuf emptyH
def hDom : FuncId → Bool := fun f => Nat.beq f 11
theorem hTab_ok : HTabOk Tryz.prog hTab := by
  refine addH_ok ?_ emptyH_ok
  intro args h c v nb hq hc
  unfold gShuf at hq
  split at hq
  · cases hq
    simp only [Bool.and_eq_true, decide_eq_true_eq] at hc
    exact ⟨.of Tryz.func11 (by kernel_rfl), shuf_fn hc.1 hc.2.1 hc.2.2⟩
  · cases hq
    exact ⟨.of Tryz.func11 (by kernel_rfl), shuf_fn_nil hc⟩
  · cases hq
    exact ⟨.of Tryz.func11 (by kernel_rfl), shuf_fn_zero hc⟩
  · cases hq
noncomputable abbrev orcH (T : PTab) (LL : FuncId → Loops) : Oracle := inl Tryz.prog ftab T LL 100 never hDom (hOrc hTab) 20
theorem orcH_ok {T : PTab} (hT : PTabOk Tryz.prog T) {LL : FuncId → Loops} (hL : ∀ f, loopsOk Tryz.prog (LL f)) : OracleOk Tryz.prog (orcH T LL) := inl_ok (hOrc_ok hTab_ok) ftab_ok hT hL mixed 20
end Go.Proofs.YtnbfnoomhlamnaaGreat
