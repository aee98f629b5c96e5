/- Chapter 2: Add, Sub, Mul of two, Div, Gcd. -/
import Derived.Test.YtnbfnoomhlamnaaGreatNaNat6
namespace Go.Proofs.YtnbfnoomhlamnaaGreat.N2
open Go Go.Eng
/-! ### what they answer -/
def addZ (x y : Int) : Int := bif decide (x + y < 340282366920938463463374607431768211456) then x + y else 0
def addE (x y : Int) : Int := bif decide (x + y < 340282366920938463463374607431768211456) then 0 else 3
def subZ (x y : Int) : Int := bif decide (x < y) then 0 else x - y
def subE (x y : Int) : Int := bif decide (x < y) then 21 else 0
def mulZ (x y : Int) : Int := bif decide (x * y < 340282366920938463463374607431768211456) then x * y else 0
def mulE (x y : Int) : Int := bif decide (x * y < 340282366920938463463374607431768211456) then 0 else 3
def divZ (x y : Int) : Int := bif decide (y = 0) then 0 else x / y
def remZ (x y : Int) : Int := bif decide (y = 0) then 0 else x % y
def divE (y : Int) : Int := bif decide (y = 0) then 2 else 0
def gcdZ (x y : Int) : Int := ((Nat.gcd x.toNat y.toNat : Nat) : Int)
def isZ (a b c d : Int) : Bool := decide (a = 0) && (decide (b = 0) && (decide (c = 0) && (decide (d = 0) && true)))
theorem isZ_eq {a b c d : Int} (h : inN a b c d = true) : isZ a b c d = decide (nval a b c d = 0) := by
  rw [inN_iff] at h
  unfold isZ
  rw [Bool.eq_iff_iff]
  simp only [Bool.and_eq_true, decide_eq_true_eq, and_true]
  unfold nval
  omega
theorem nW_zero : nW 0 = .agg [.int .u32 0, .int .u32 0, .int .u32 0, .int .u32 0] := rfl
theorem add_eval (a b c d e f g h : Int) : evalFn Tryz.prog (orcP tabD plainL) noLoops 200 6 Tryz.f6 [.agg [.int .u32 a, .int .u32 b, .int .u32 c, .int .u32 d], .agg [.int .u32 e, .int .u32 f, .int .u32 g, .int .u32 h]] [] (fun v _ => some v) =
    bif inN a b c d && inN e f g h then bif !decide ((nval a b c d + nval e f g h) / 340282366920938463463374607431768211456 = 0) then some (.tuple [nW 0, .int .i64 3]) else some (.tuple [nW (nval a b c d + nval e f g h), .int .i64 0]) else none := by kernel_rfl
theorem add_p {a b c d e f g h : Int} (hx : inN a b c d = true) (hy : inN e f g h = true) :
    FnPure Tryz.prog 6 [.agg [.int .u32 a, .int .u32 b, .int .u32 c, .int .u32 d], .agg [.int .u32 e, .int .u32 f, .int .u32 g, .int .u32 h]] (.tuple [nW (addZ (nval a b c d) (nval e f g h)), .int .i64 (addE (nval a b c d) (nval e f g h))]) := by
  refine fnPure_of_eval (N := 200) (orcP_ok tabD_ok plainL_ok) mixed Tryz.func6 (by kernel_rfl) noLoops_ok ?_ rfl rfl
  have r1 := nval_range hx
  have r2 := nval_range hy
  rw [add_eval, hx, hy]
  unfold addZ addE
  by_cases hl : nval a b c d + nval e f g h < 340282366920938463463374607431768211456
  · rw [decide_eq_true hl, decide_eq_true (show (nval a b c d + nval e f g h) / 340282366920938463463374607431768211456 = 0 by omega)]; rfl
  · rw [decide_eq_false hl, decide_eq_false (show ¬ (nval a b c d + nval e f g h) / 340282366920938463463374607431768211456 = 0 by omega)]; rfl
theorem sub_eval (a b c d e f g h : Int) : evalFn Tryz.prog (orcP tabD plainL) noLoops 200 7 Tryz.f7 [.agg [.int .u32 a, .int .u32 b, .int .u32 c, .int .u32 d], .agg [.int .u32 e, .int .u32 f, .int .u32 g, .int .u32 h]] [] (fun v _ => some v) =
    bif inN a b c d && inN e f g h then bif decide (cmpI (nval a b c d) (nval e f g h) < 0) then some (.tuple [nW 0, .int .i64 21]) else
      bif (inN a b c d && inN e f g h) && decide (nval e f g h ≤ nval a b c d) then some (.tuple [nW (nval a b c d - nval e f g h), .int .i64 0]) else none else none := by kernel_rfl
theorem cmp_lt {x y : Int} : decide (cmpI x y < 0) = decide (x < y) := by
  unfold cmpI
  cases h : decide (x < y) with
  | true => rfl
  | false => simp only [cond_false]; cases decide (y < x) <;> rfl
theorem sub_p {a b c d e f g h : Int} (hx : inN a b c d = true) (hy : inN e f g h = true) :
    FnPure Tryz.prog 7 [.agg [.int .u32 a, .int .u32 b, .int .u32 c, .int .u32 d], .agg [.int .u32 e, .int .u32 f, .int .u32 g, .int .u32 h]] (.tuple [nW (subZ (nval a b c d) (nval e f g h)), .int .i64 (subE (nval a b c d) (nval e f g h))]) := by
  refine fnPure_of_eval (N := 200) (orcP_ok tabD_ok plainL_ok) mixed Tryz.func7 (by kernel_rfl) noLoops_ok ?_ rfl rfl
  rw [sub_eval, hx, hy, cmp_lt]
  unfold subZ subE
  by_cases hl : nval a b c d < nval e f g h
  · rw [decide_eq_true hl]; rfl
  · rw [decide_eq_false hl, decide_eq_true (show nval e f g h ≤ nval a b c d by omega)]; rfl
theorem div_eval (a b c d e f g h : Int) : evalFn Tryz.prog (orcP tabD plainL) noLoops 200 43 Tryz.f43 [.agg [.int .u32 a, .int .u32 b, .int .u32 c, .int .u32 d], .agg [.int .u32 e, .int .u32 f, .int .u32 g, .int .u32 h]] [] (fun v _ => some v) =
    bif isZ e f g h then some (.tuple [nW 0, nW 0, .int .i64 2]) else bif (inN a b c d && inN e f g h) && decide (1 ≤ nval e f g h) then some (.tuple [nW (nval a b c d / nval e f g h), nW (nval a b c d % nval e f g h), .int .i64 0]) else none := by kernel_rfl
theorem div_p {a b c d e f g h : Int} (hx : inN a b c d = true) (hy : inN e f g h = true) :
    FnPure Tryz.prog 43 [.agg [.int .u32 a, .int .u32 b, .int .u32 c, .int .u32 d], .agg [.int .u32 e, .int .u32 f, .int .u32 g, .int .u32 h]] (.tuple [nW (divZ (nval a b c d) (nval e f g h)), nW (remZ (nval a b c d) (nval e f g h)), .int .i64 (divE (nval e f g h))]) := by
  refine fnPure_of_eval (N := 200) (orcP_ok tabD_ok plainL_ok) mixed Tryz.func43 (by kernel_rfl) noLoops_ok ?_ rfl rfl
  have r2 := nval_range hy
  rw [div_eval, isZ_eq hy, hx, hy]
  unfold divZ remZ divE
  by_cases hl : nval e f g h = 0
  · rw [decide_eq_true hl]; rfl
  · rw [decide_eq_false hl, decide_eq_true (show 1 ≤ nval e f g h by omega)]; rfl
/-! ### Mul -/
def keepM (v : V) : List Blk → Option (V × List Int)
  | .rs true 4 (.ints .u32 l) :: _ => some (v, l)
  | _ => none
theorem mul_eval (a b c d e f g h : Int) : evalFn Tryz.prog (orcP tabD plainL) noLoops 200 4 Tryz.f4 [.gs 0] [.rs true 4 (.ints .u32 [a, b, c, d, e, f, g, h])] keepM =
    bif isZ a b c d then some (.tuple [nW 0, .int .i64 0], [a, b, c, d, e, f, g, h]) else bif isZ e f g h then some (.tuple [nW 0, .int .i64 0], [a, b, c, d, e, f, g, h]) else
    bif true && inN a b c d then bif !decide (1 * nval a b c d < 340282366920938463463374607431768211456) then some (.tuple [nW 0, .int .i64 3], [a, b, c, d, e, f, g, h]) else
    bif inN (w0 (1 * nval a b c d)) (w1 (1 * nval a b c d)) (w2 (1 * nval a b c d)) (w3 (1 * nval a b c d)) && inN e f g h then
      bif !decide (nval (w0 (1 * nval a b c d)) (w1 (1 * nval a b c d)) (w2 (1 * nval a b c d)) (w3 (1 * nval a b c d)) * nval e f g h < 340282366920938463463374607431768211456) then some (.tuple [nW 0, .int .i64 3], [a, b, c, d, e, f, g, h]) else
      some (.tuple [nW (nval (w0 (1 * nval a b c d)) (w1 (1 * nval a b c d)) (w2 (1 * nval a b c d)) (w3 (1 * nval a b c d)) * nval e f g h), .int .i64 0], [a, b, c, d, e, f, g, h])
    else none else none := by kernel_rfl
theorem mul_fn {a b c d e f g h : Int} (hx : inN a b c d = true) (hy : inN e f g h = true) :
    FnOK Tryz.prog 4 [.gs 0] [.rs true 4 (.ints .u32 [a, b, c, d, e, f, g, h])] (.tuple [nW (mulZ (nval a b c d) (nval e f g h)), .int .i64 (mulE (nval a b c d) (nval e f g h))]) [.rs true 4 (.ints .u32 [a, b, c, d, e, f, g, h])] := by
  have key : evalFn Tryz.prog (orcP tabD plainL) noLoops 200 4 Tryz.f4 [.gs 0] [.rs true 4 (.ints .u32 [a, b, c, d, e, f, g, h])] keepM = some (.tuple [nW (mulZ (nval a b c d) (nval e f g h)), .int .i64 (mulE (nval a b c d) (nval e f g h))], [a, b, c, d, e, f, g, h]) := by
    have r1 := nval_range hx
    rw [mul_eval, isZ_eq hx, isZ_eq hy, hx, inN_w, hy, Int.one_mul, nval_id r1]
    unfold mulZ mulE
    by_cases h1 : nval a b c d = 0
    · rw [decide_eq_true h1, h1, Int.zero_mul]; rfl
    · by_cases h2 : nval e f g h = 0
      · rw [decide_eq_false h1, decide_eq_true h2, h2, Int.mul_zero]; rfl
      · rw [decide_eq_false h1, decide_eq_false h2, decide_eq_true r1.2]
        cases decide (nval a b c d * nval e f g h < 340282366920938463463374607431768211456) <;> rfl
  obtain ⟨v1, h1, hk, hok⟩ := evalFn_ok (orcP_ok tabD_ok plainL_ok) mixed Tryz.func4 noLoops_ok key
  unfold keepM at hk
  split at hk
  · cases hk
    exact FnOK.cut (h := [.rs true 4 (.ints .u32 [a, b, c, d, e, f, g, h])]) hok rfl rfl
  · cases hk
def gMul2 : List V → List Blk → Option (Bool × V × List Blk)
  | [.gs 0], [.rs true 4 (.ints .u32 [a, b, c, d, e, f, g, h])] => some (inN a b c d && inN e f g h, .tuple [nW (mulZ (nval a b c d) (nval e f g h)), .int .i64 (mulE (nval a b c d) (nval e f g h))], [])
  | _, _ => none
def hTabM : HTab := addH 4 gMul2 emptyH
def hDomM : FuncId → Bool := fun f => Nat.beq f 4
theorem hTabM_ok : HTabOk Tryz.prog hTabM := by
  refine addH_ok ?_ emptyH_ok
  intro args h c v nb hq hc
  unfold gMul2 at hq
  split at hq
  · cases hq
    simp only [Bool.and_eq_true] at hc
    exact ⟨.of Tryz.func4 (by kernel_rfl), mul_fn hc.1 hc.2⟩
  · cases hq
/-! ### tables -/
def gAdd : List V → Option (Bool × V)
  | [.agg [.int .u32 a, .int .u32 b, .int .u32 c, .int .u32 d], .agg [.int .u32 e, .int .u32 f, .int .u32 g, .int .u32 h]] => some (inN a b c d && inN e f g h, .tuple [nW (addZ (nval a b c d) (nval e f g h)), .int .i64 (addE (nval a b c d) (nval e f g h))])
  | _ => none
def gSub : List V → Option (Bool × V)
  | [.agg [.int .u32 a, .int .u32 b, .int .u32 c, .int .u32 d], .agg [.int .u32 e, .int .u32 f, .int .u32 g, .int .u32 h]] => some (inN a b c d && inN e f g h, .tuple [nW (subZ (nval a b c d) (nval e f g h)), .int .i64 (subE (nval a b c d) (nval e f g h))])
  | _ => none
def gDiv : List V → Option (Bool × V)
  | [.agg [.int .u32 a, .int .u32 b, .int .u32 c, .int .u32 d], .agg [.int .u32 e, .int .u32 f, .int .u32 g, .int .u32 h]] => some (inN a b c d && inN e f g h, .tuple [nW (divZ (nval a b c d) (nval e f g h)), nW (remZ (nval a b c d) (nval e f g h)), .int .i64 (divE (nval e f g h))])
  | _ => none
def tabF : PTab := addTab 6 gAdd (addTab 7 gSub (addTab 43 gDiv tabD))
theorem tabF_ok : PTabOk Tryz.prog tabF := by
  refine addTab_ok ?_ (addTab_ok ?_ (addTab_ok ?_ tabD_ok))
  · intro args c v h hc
    unfold gAdd at h
    split at h
    · cases h; simp only [Bool.and_eq_true] at hc; exact add_p hc.1 hc.2
    · cases h
  · intro args c v h hc
    unfold gSub at h
    split at h
    · cases h; simp only [Bool.and_eq_true] at hc; exact sub_p hc.1 hc.2
    · cases h
  · intro args c v h hc
    unfold gDiv at h
    split at h
    · cases h; simp only [Bool.and_eq_true] at hc; exact div_p hc.1 hc.2
    · cases h
end Go.Proofs.YtnbfnoomhlamnaaGreat.N2
