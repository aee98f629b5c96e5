/- Chapter 2: Add, Sub, Mul of two, Div, Gcd. -/
import Derived.Test.YthpdeiolhahobaaDoorNat6
namespace Go.Proofs.YthpdeiolhahobaaDoor
open Go Go.Eng
/-! ### what they answer -/
def addZ (x y : Int) : Int := bif decide (x + y < 340282366920938463463374607431768211456) then x + y else 0
def addE (x y : Int) : Int := bif decide (x + y < 340282366920938463463374607431768211456) then 0 else 3
def subZ (x y : Int) : Int := bif decide (x < y) then 0 else x - y
def subE (x y : Int) : Int := bif decide (x < y) then 21 else 0
def mulZ (x y : Int) : Int := bif decide (x * y < 340282366920938463463374607431768211456) then x * y else 0
def mulE (x y : Int) : Int := bif decide (x * y < 340282366920938463463374607431768211456) then 0 else 3
def divZ (x y : Int) : Int := bif decide (y = 0) then 0 else x / y
def remZ (x y : Int) : Int := bif decide (y = 0) then 0 else x % y
def divE (y : Int) : Int := bif decide (y = 0) then 2 else 0
def gcdZ (x y : Int) : Int := ((Nat.gcd x.toNat y.toNat : Nat) : Int)
def isZ (a b c d : Int) : Bool := decide (a = 0) && (decide (b = 0) && (decide (c = 0) && (decide (d = 0) && true)))
theorem isZ_eq {a b c d : Int} (h : inN a b c d = true) : isZ a b c d = decide (nval a b c d = 0) := by
  rw [inN_iff] at h
  unfold isZ
  rw [Bool.eq_iff_iff]
  simp only [Bool.and_eq_true, decide_eq_true_eq, and_true]
  unfold nval
  omega
theorem nW_zero : nW 0 = .agg [.int .u32 0, .int .u32 0, .int .u32 0, .int .u32 0] := rfl
theorem add_eval (a b c d e f g h : Int) : evalFn Tryd.prog (orcP tabD plainL) noLoops 200 19 Tryd.f19 [.agg [.int .u32 a, .int .u32 b, .int .u32 c, .int .u32 d], .agg [.int .u32 e, .int .u32 f, .int .u32 g, .int .u32 h]] [] (fun v _ => some v) =
    bif inN a b c d && inN e f g h then bif !decide ((nval a b c d + nval e f g h) / 340282366920938463463374607431768211456 = 0) then some (.tuple [nW 0, .int .i64 3]) else some (.tuple [nW (nval a b c d + nval e f g h), .int .i64 0]) else none := by kernel_rfl
theorem add_p {a b c d e f g h : Int} (hx : inN a b c d = true) (hy : inN e f g h = true) :
    FnPure Tryd.prog 19 [.agg [.int .u32 a, .int .u32 b, .int .u32 c, .int .u32 d], .agg [.int .u32 e, .int .u32 f, .int .u32 g, .int .u32 h]] (.tuple [nW (addZ (nval a b c d) (nval e f g h)), .int .i64 (addE (nval a b c d) (nval e f g h))]) := by
  refine fnPure_of_eval (N := 200) (orcP_ok tabD_ok plainL_ok) mixed Tryd.func19 (by kernel_rfl) noLoops_ok ?_ rfl rfl
  have r1 := nval_range hx
  have r2 := nval_range hy
  rw [add_eval, hx, hy]
  unfold addZ addE
  by_cases hl : nval a b c d + nval e f g h < 340282366920938463463374607431768211456
  · rw [decide_eq_true hl, decide_eq_true (show (nval a b c d + nval e f g h) / 340282366920938463463374607431768211456 = 0 by omega)]; rfl
  · rw [decide_eq_false hl, decide_eq_false (show ¬ (nval a b c d + nval e f g h) / 340282366920938463463374607431768211456 = 0 by omega)]; rfl
theorem sub_eval (a b c d e f g h : Int) : evalFn Tryd.prog (orcP tabD plainL) noLoops 200 25 Tryd.f25 [.agg [.int .u32 a, .int .u32 b, .int .u32 c, .int .u32 d], .agg [.int .u32 e, .int .u32 f, .int .u32 g, .int .u32 h]] [] (fun v _ => some v) =
    bif inN a b c d && inN e f g h then bif decide (cmpI (nval a b c d) (nval e f g h) < 0) then some (.tuple [nW 0, .int .i64 21]) else
      bif (inN a b c d && inN e f g h) && decide (nval e f g h ≤ nval a b c d) then some (.tuple [nW (nval a b c d - nval e f g h), .int .i64 0]) else none else none := by kernel_rfl
theorem cmp_lt {x y : Int} : decide (cmpI x y < 0) = decide (x < y) := by
  unfold cmpI
  cases h : decide (x < y) with
  | true => rfl
  | false => simp only [cond_false]; cases decide (y < x) <;> rfl
theorem sub_p {a b c d e f g h : Int} (hx : inN a b c d = true) (hy : inN e f g h = true) :
    FnPure Tryd.prog 25 [.agg [.int .u32 a, .int .u32 b, .int .u32 c, .int .u32 d], .agg [.int .u32 e, .int .u32 f, .int .u32 g, .int .u32 h]] (.tuple [nW (subZ (nval a b c d) (nval e f g h)), .int .i64 (subE (nval a b c d) (nval e f g h))]) := by
  refine fnPure_of_eval (N := 200) (orcP_ok tabD_ok plainL_ok) mixed Tryd.func25 (by kernel_rfl) noLoops_ok ?_ rfl rfl
  rw [sub_eval, hx, hy, cmp_lt]
  unfold subZ subE
  by_cases hl : nval a b c d < nval e f g h
  · rw [decide_eq_true hl]; rfl
  · rw [decide_eq_false hl, decide_eq_true (show nval e f g h ≤ nval a b c d by omega)]; rfl
theorem div_eval (a b c d e f g h : Int) : evalFn Tryd.prog (orcP tabD plainL) noLoops 200 23 Tryd.f23 [.agg [.int .u32 a, .int .u32 b, .int .u32 c, .int .u32 d], .agg [.int .u32 e, .int .u32 f, .int .u32 g, .int .u32 h]] [] (fun v _ => some v) =
    bif isZ e f g h then some (.tuple [nW 0, nW 0, .int .i64 2]) else bif (inN a b c d && inN e f g h) && decide (1 ≤ nval e f g h) then some (.tuple [nW (nval a b c d / nval e f g h), nW (nval a b c d % nval e f g h), .int .i64 0]) else none := by kernel_rfl
theorem div_p {a b c d e f g h : Int} (hx : inN a b c d = true) (hy : inN e f g h = true) :
    FnPure Tryd.prog 23 [.agg [.int .u32 a, .int .u32 b, .int .u32 c, .int .u32 d], .agg [.int .u32 e, .int .u32 f, .int .u32 g, .int .u32 h]] (.tuple [nW (divZ (nval a b c d) (nval e f g h)), nW (remZ (nval a b c d) (nval e f g h)), .int .i64 (divE (nval e f g h))]) := by
  refine fnPure_of_eval (N := 200) (orcP_ok tabD_ok plainL_ok) mixed Tryd.func23 (by kernel_rfl) noLoops_ok ?_ rfl rfl
  have r2 := nval_range hy
  rw [div_eval, isZ_eq hy, hx, hy]
  unfold divZ remZ divE
  by_cases hl : nval e f g h = 0
  · rw [decide_eq_true hl]; rfl
  · rw [decide_eq_false hl, decide_eq_true (show 1 ≤ nval e f g h by omega)]; rfl
/-! ### Mul -/
def keepM (v : V) : List Blk → Option (V × List Int)
  | .rs true 4 (.ints .u32 l) :: _ => some (v, l)
  | _ => none
theorem mul_eval (a b c d e f g h : Int) : evalFn Tryd.prog (orcP tabD plainL) noLoops 200 21 Tryd.f21 [.gs 0] [.rs true 4 (.ints .u32 [a, b, c, d, e, f, g, h])] keepM =
    bif isZ a b c d then some (.tuple [nW 0, .int .i64 0], [a, b, c, d, e, f, g, h]) else bif isZ e f g h then some (.tuple [nW 0, .int .i64 0], [a, b, c, d, e, f, g, h]) else
    bif true && inN a b c d then bif !decide (1 * nval a b c d < 340282366920938463463374607431768211456) then some (.tuple [nW 0, .int .i64 3], [a, b, c, d, e, f, g, h]) else
    bif inN (w0 (1 * nval a b c d)) (w1 (1 * nval a b c d)) (w2 (1 * nval a b c d)) (w3 (1 * nval a b c d)) && inN e f g h then
      bif !decide (nval (w0 (1 * nval a b c d)) (w1 (1 * nval a b c d)) (w2 (1 * nval a b c d)) (w3 (1 * nval a b c d)) * nval e f g h < 340282366920938463463374607431768211456) then some (.tuple [nW 0, .int .i64 3], [a, b, c, d, e, f, g, h]) else
      some (.tuple [nW (nval (w0 (1 * nval a b c d)) (w1 (1 * nval a b c d)) (w2 (1 * nval a b c d)) (w3 (1 * nval a b c d)) * nval e f g h), .int .i64 0], [a, b, c, d, e, f, g, h])
    else none else none := by kernel_rfl
theorem mul_fn {a b c d e f g h : Int} (hx : inN a b c d = true) (hy : inN e f g h = true) :
    FnOK Tryd.prog 21 [.gs 0] [.rs true 4 (.ints .u32 [a, b, c, d, e, f, g, h])] (.tuple [nW (mulZ (nval a b c d) (nval e f g h)), .int .i64 (mulE (nval a b c d) (nval e f g h))]) [.rs true 4 (.ints .u32 [a, b, c, d, e, f, g, h])] := by
  have key : evalFn Tryd.prog (orcP tabD plainL) noLoops 200 21 Tryd.f21 [.gs 0] [.rs true 4 (.ints .u32 [a, b, c, d, e, f, g, h])] keepM = some (.tuple [nW (mulZ (nval a b c d) (nval e f g h)), .int .i64 (mulE (nval a b c d) (nval e f g h))], [a, b, c, d, e, f, g, h]) := by
    have r1 := nval_range hx
    rw [mul_eval, isZ_eq hx, isZ_eq hy, hx, inN_w, hy, Int.one_mul, nval_id r1]
    unfold mulZ mulE
    by_cases h1 : nval a b c d = 0
    · rw [decide_eq_true h1, h1, Int.zero_mul]; rfl
    · by_cases h2 : nval e f g h = 0
      · rw [decide_eq_false h1, decide_eq_true h2, h2, Int.mul_zero]; rfl
      · rw [decide_eq_false h1, decide_eq_false h2, decide_eq_true r1.2]
        cases decide (nval a b c d * nval e f g h < 340282366920938463463374607431768211456) <;> rfl
  obtain ⟨v1, h1, hk, hok⟩ := evalFn_ok (orcP_ok tabD_ok plainL_ok) mixed Tryd.func21 noLoops_ok key
  unfold keepM at hk
  split at hk
  · cases hk
    exact FnOK.cut (h := [.rs true 4 (.ints .u32 [a, b, c, d, e, f, g, h])]) hok rfl rfl
  · cases hk
def gMul2 : List V → List Blk → Option (Bool × V × List Blk)
  | [.gs 0], [.rs true 4 (.ints .u32 [a, b, c, d, e, f, g, h])] => some (inN a b c d && inN e f g h, .tuple [nW (mulZ (nval a b c d) (nval e f g h)), .int .i64 (mulE (nval a b c d) (nval e f g h))], [])
  | _, _ => none
def hTabM : HTab := addH 21 gMul2 emptyH
def hDomM : FuncId → Bool := fun f => Nat.beq f 21
theorem hTabM_ok : HTabOk Tryd.prog hTabM := by
  refine addH_ok ?_ emptyH_ok
  intro args h c v nb hq hc
  unfold gMul2 at hq
  split at hq
  · cases hq
    simp only [Bool.and_eq_true] at hc
    exact ⟨.of Tryd.func21 (by kernel_rfl), mul_fn hc.1 hc.2⟩
  · cases hq
/-! ### Gcd -/
noncomputable def gcLp : Code := loopOf 1 Tryd.f22
def gcT : Tm := ⟨mkS [(2, .ptr 0 0), (3, .ptr 1 0), (4, .ptr 2 0)] 0 19, [.own 28 n4, .own 28 n4, .own 28 z4], []⟩
theorem gc_round (rd : Option Nat) (a b c d e f g h : Int) : roundT Tryd.prog (orcP tabD plainL) noLoops 200 0 rd 22 gcLp gcT gcT [.i a, .i b, .i c, .i d, .i e, .i f, .i g, .i h] =
    bif !isZ e f g h then bif (inN a b c d && inN e f g h) && decide (1 ≤ nval e f g h) then some (.normal, [.i e, .i f, .i g, .i h, .i (w0 (nval a b c d % nval e f g h)), .i (w1 (nval a b c d % nval e f g h)), .i (w2 (nval a b c d % nval e f g h)), .i (w3 (nval a b c d % nval e f g h))], []) else none
    else some (.exit 0, [.i a, .i b, .i c, .i d, .i e, .i f, .i g, .i h], []) := by kernel_rfl
theorem gc_loop (rd : Option Nat) : ∀ x : Nat × Nat, (x.1 < 340282366920938463463374607431768211456 ∧ x.2 < 340282366920938463463374607431768211456) →
    SimC Tryd.prog 0 rd (.loop gcLp) (gcT.at [.i (w0 x.1), .i (w1 x.1), .i (w2 x.1), .i (w3 x.1), .i (w0 x.2), .i (w1 x.2), .i (w2 x.2), .i (w3 x.2)]) (.exit 0)
      (gcT.at [.i (w0 (Nat.gcd x.1 x.2 : Nat)), .i (w1 (Nat.gcd x.1 x.2 : Nat)), .i (w2 (Nat.gcd x.1 x.2 : Nat)), .i (w3 (Nat.gcd x.1 x.2 : Nat)), .i 0, .i 0, .i 0, .i 0]) := by
  refine loop_of_rounds (C := orcP tabD plainL) (L := noLoops) (N := 200) (me := 22) (T := gcT) (T' := gcT) (orcP_ok tabD_ok plainL_ok) mixed noLoops_ok (by kernel_rfl) (by kernel_rfl) (X := Nat × Nat)
    (fun x => [.i (w0 x.1), .i (w1 x.1), .i (w2 x.1), .i (w3 x.1), .i (w0 x.2), .i (w1 x.2), .i (w2 x.2), .i (w3 x.2)]) (fun x => x.1 < 340282366920938463463374607431768211456 ∧ x.2 < 340282366920938463463374607431768211456) (fun x => x.2)
    (fun x => (.exit 0, [.i (w0 (Nat.gcd x.1 x.2 : Nat)), .i (w1 (Nat.gcd x.1 x.2 : Nat)), .i (w2 (Nat.gcd x.1 x.2 : Nat)), .i (w3 (Nat.gcd x.1 x.2 : Nat)), .i 0, .i 0, .i 0, .i 0])) ?_
  rintro ⟨m, n⟩ ⟨hm, hn⟩
  dsimp only at hm hn ⊢
  have h := gc_round rd (w0 m) (w1 m) (w2 m) (w3 m) (w0 n) (w1 n) (w2 n) (w3 n)
  rw [isZ_eq (inN_w _), inN_w, inN_w, nval_id ⟨by omega, by omega⟩, nval_id ⟨by omega, by omega⟩] at h
  by_cases h0 : n = 0
  · subst h0
    rw [decide_eq_true (show ((0 : Nat) : Int) = 0 from rfl)] at h
    refine ⟨_, _, _, h, codes0, .inr ⟨by simp, ?_⟩⟩
    rw [Nat.gcd_zero_right]
    rfl
  · rw [decide_eq_false (show ¬ (n : Int) = 0 by omega), decide_eq_true (show 1 ≤ (n : Int) by omega)] at h
    have hlt : m % n < n := Nat.mod_lt _ (by omega)
    refine ⟨_, _, _, h, codes0, .inl ⟨rfl, (n, m % n), rfl, ⟨hn, by dsimp only; omega⟩, hlt, ?_⟩⟩
    dsimp only
    rw [Nat.gcd_comm n (m % n), ← Nat.gcd_rec, Nat.gcd_comm n m]
noncomputable def gcTree : List PV → Fin
  | [.i a, .i b, .i c, .i d, .i e, .i f, .i g, .i h] => .br (inN a b c d && inN e f g h) (.leaf (.exit 0) (gcT.at [.i (w0 (gcdZ (nval a b c d) (nval e f g h))), .i (w1 (gcdZ (nval a b c d) (nval e f g h))), .i (w2 (gcdZ (nval a b c d) (nval e f g h))), .i (w3 (gcdZ (nval a b c d) (nval e f g h))), .i 0, .i 0, .i 0, .i 0])) .no
  | _ => .no
noncomputable def gcSum : LoopSum := lsumF 0 gcT gcLp gcTree
theorem gcSum_ok : LoopOk Tryd.prog gcSum := by
  refine lsumF_ok (by kernel_rfl) (fun rd ps e1 st1 hq => ?_)
  unfold gcTree at hq
  split at hq
  · rename_i a b c d e f g h
    simp only [Fin.pick] at hq
    cases hc : (inN a b c d && inN e f g h) with
    | false => rw [hc] at hq; cases hq
    | true =>
      rw [hc, cond_true] at hq
      cases hq
      simp only [Bool.and_eq_true] at hc
      have r1 := nval_range hc.1
      have r2 := nval_range hc.2
      obtain ⟨p0, p1, p2, p3⟩ := w_nval hc.1
      obtain ⟨q0, q1, q2, q3⟩ := w_nval hc.2
      have := gc_loop rd ((nval a b c d).toNat, (nval e f g h).toNat) ⟨by dsimp only; omega, by dsimp only; omega⟩
      dsimp only at this
      rw [show (((nval a b c d).toNat : Nat) : Int) = nval a b c d by omega, show (((nval e f g h).toNat : Nat) : Int) = nval e f g h by omega, p0, p1, p2, p3, q0, q1, q2, q3] at this
      exact this
  · cases hq
noncomputable def gcL : Loops := sums (fun n => match n with | 1 => some gcSum | _ => none)
theorem gcL_ok : loopsOk Tryd.prog gcL := by
  intro n g hg
  simp only [gcL, sums] at hg
  split at hg
  · cases hg; exact gcSum_ok
  · cases hg
theorem gcd_eval (a b c d e f g h : Int) : evalFn Tryd.prog (orcP tabD plainL) gcL 200 22 Tryd.f22 [.agg [.int .u32 a, .int .u32 b, .int .u32 c, .int .u32 d], .agg [.int .u32 e, .int .u32 f, .int .u32 g, .int .u32 h]] [] (fun v _ => some v) =
    cond (codesB [(gcLp, gcLp)]) (bif inN a b c d && inN e f g h then some (nW (gcdZ (nval a b c d) (nval e f g h))) else none) none := by kernel_rfl
theorem gcd_p {a b c d e f g h : Int} (hx : inN a b c d = true) (hy : inN e f g h = true) :
    FnPure Tryd.prog 22 [.agg [.int .u32 a, .int .u32 b, .int .u32 c, .int .u32 d], .agg [.int .u32 e, .int .u32 f, .int .u32 g, .int .u32 h]] (nW (gcdZ (nval a b c d) (nval e f g h))) := by
  refine fnPure_of_eval (N := 200) (orcP_ok tabD_ok plainL_ok) mixed Tryd.func22 (by kernel_rfl) gcL_ok ?_ rfl rfl
  have hcd : codesB [(gcLp, gcLp)] = true := by rw [codesB_iff]; intro x hx; simp at hx; rw [hx]
  rw [gcd_eval, hcd, hx, hy]; rfl
/-! ### tables -/
def gAdd : List V → Option (Bool × V)
  | [.agg [.int .u32 a, .int .u32 b, .int .u32 c, .int .u32 d], .agg [.int .u32 e, .int .u32 f, .int .u32 g, .int .u32 h]] => some (inN a b c d && inN e f g h, .tuple [nW (addZ (nval a b c d) (nval e f g h)), .int .i64 (addE (nval a b c d) (nval e f g h))])
  | _ => none
def gSub : List V → Option (Bool × V)
  | [.agg [.int .u32 a, .int .u32 b, .int .u32 c, .int .u32 d], .agg [.int .u32 e, .int .u32 f, .int .u32 g, .int .u32 h]] => some (inN a b c d && inN e f g h, .tuple [nW (subZ (nval a b c d) (nval e f g h)), .int .i64 (subE (nval a b c d) (nval e f g h))])
  | _ => none
def gDiv : List V → Option (Bool × V)
  | [.agg [.int .u32 a, .int .u32 b, .int .u32 c, .int .u32 d], .agg [.int .u32 e, .int .u32 f, .int .u32 g, .int .u32 h]] => some (inN a b c d && inN e f g h, .tuple [nW (divZ (nval a b c d) (nval e f g h)), nW (remZ (nval a b c d) (nval e f g h)), .int .i64 (divE (nval e f g h))])
  | _ => none
def gGcd : List V → Option (Bool × V)
  | [.agg [.int .u32 a, .int .u32 b, .int .u32 c, .int .u32 d], .agg [.int .u32 e, .int .u32 f, .int .u32 g, .int .u32 h]] => some (inN a b c d && inN e f g h, nW (gcdZ (nval a b c d) (nval e f g h)))
  | _ => none
def tabF : PTab := addTab 19 gAdd (addTab 25 gSub (addTab 23 gDiv (addTab 22 gGcd tabD)))
theorem tabF_ok : PTabOk Tryd.prog tabF := by
  refine addTab_ok ?_ (addTab_ok ?_ (addTab_ok ?_ (addTab_ok ?_ tabD_ok)))
  · intro args c v h hc
    unfold gAdd at h
    split at h
    · cases h; simp only [Bool.and_eq_true] at hc; exact add_p hc.1 hc.2
    · cases h
  · intro args c v h hc
    unfold gSub at h
    split at h
    · cases h; simp only [Bool.and_eq_true] at hc; exact sub_p hc.1 hc.2
    · cases h
  · intro args c v h hc
    unfold gDiv at h
    split at h
    · cases h; simp only [Bool.and_eq_true] at hc; exact div_p hc.1 hc.2
    · cases h
  · intro args c v h hc
    unfold gGcd at h
    split at h
    · cases h; simp only [Bool.and_eq_true] at hc; exact gcd_p hc.1 hc.2
    · cases h
end Go.Proofs.YthpdeiolhahobaaDoor
