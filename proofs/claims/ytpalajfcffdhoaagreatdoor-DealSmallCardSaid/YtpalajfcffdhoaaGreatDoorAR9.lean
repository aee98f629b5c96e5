/- Texts merged: AR9, AR10, AR11. -/
import Derived.Test.YtpalajfcffdhoaaGreatDoorAR8
/- Chapter 2, the reference: the lists' functions in a table. -/
namespace Go.Proofs.YtpalajfcffdhoaaGreatDoor.N2
open Go Go.Eng
structure ND where
  D : Int → List Int
  sum : List Int → List Int → List Int
  diff : List Int → List Int → List Int
  prod : List Int → List Int → List Int
  ok : List Int → Bool
  okS : List Int → List Int → Bool
  lt : List Int → List Int → Bool
  val : List Int → Int
  okV : List Int → Bool
  okI : Int → Bool
def gOf (N : ND) : List V → List Blk → Option (Bool × V × List Blk)
  | [.int .i64 n], [] => some (N.okI n, .gs 0, [.grow false 3 1 (.ints .i64 (N.D n))])
  | _, _ => none
def gAdd67 (N : ND) : List V → List Blk → Option (Bool × V × List Blk)
  | [.gs 0, .gs 1], [.rs _ 1 (.ints .i64 xs), .rs _ 1 (.ints .i64 ys)] => some (N.ok xs && N.ok ys, .gs 2, [.grow false 3 1 (.ints .i64 (N.sum xs ys))])
  | _, _ => none
def gSub69 (N : ND) : List V → List Blk → Option (Bool × V × List Blk)
  | [.gs 0, .gs 1], [.rs _ 1 (.ints .i64 xs), .rs _ 1 (.ints .i64 ys)] => some (N.okS xs ys, .gs 2, [.grow false 3 1 (.ints .i64 (N.diff xs ys))])
  | _, _ => none
def gMul49 (N : ND) : List V → List Blk → Option (Bool × V × List Blk)
  | [.gs 0, .gs 1], [.rs _ 1 (.ints .i64 xs), .rs _ 1 (.ints .i64 ys)] => some (N.ok xs && N.ok ys, .gs 2, [.grow true 3 1 (.ints .i64 (N.prod xs ys))])
  | _, _ => none
def gLess68 (N : ND) : List V → List Blk → Option (Bool × V × List Blk)
  | [.gs 0, .gs 1], [.rs _ 1 (.ints .i64 xs), .rs _ 1 (.ints .i64 ys)] => some (N.ok xs && N.ok ys, .bool (N.lt xs ys), [])
  | _, _ => none
def gValue70 (N : ND) : List V → List Blk → Option (Bool × V × List Blk)
  | [.gs 0], [.rs _ 1 (.ints .i64 xs)] => some (N.okV xs, .int .i64 (N.val xs), [])
  | _, _ => none
def gWord (N : ND) : List V → List Blk → Option (Bool × V × List Blk)
  | [], [] => some (true, .gs 0, [.grow false 3 1 (.ints .i64 (N.D 4294967296))])
  | _, _ => none
def hTabD0 (N : ND) : HTab := addH 58 (gOf N) (addH 87 (gAdd67 N) (addH 91 (gSub69 N) (addH 88 (gMul49 N) (addH 55 (gLess68 N) (addH 59 (gValue70 N) emptyH)))))
def hTabD (N : ND) : HTab := addH 89 (gWord N) (hTabD0 N)
def nrI : FuncId → Option Row := fun f => bif Nat.beq f 87 || (Nat.beq f 91 || (Nat.beq f 88 || (Nat.beq f 55 || (Nat.beq f 59 || (Nat.beq f 56 || Nat.beq f 57))))) then some (.ints .i64 []) else none
def domD : FuncId → Bool := fun f => Nat.beq f 90 || (Nat.beq f 58 || (Nat.beq f 87 || (Nat.beq f 91 || (Nat.beq f 88 || (Nat.beq f 55 || (Nat.beq f 59 || Nat.beq f 89))))))
noncomputable abbrev orcD (HT : HTab) (LL : FuncId → Loops) : Oracle := inl Tryz.prog ftab tabA LL 200 never domD (orElse domT (resOrc rTab) (hOrcP nrI HT)) 20
theorem orcD_ok {HT : HTab} (hT : HTabOk Tryz.prog HT) {LL : FuncId → Loops} (hL : ∀ f, loopsOk Tryz.prog (LL f)) : OracleOk Tryz.prog (orcD HT LL) := inl_ok (orElse_ok (resOrc_ok rTab_ok) (hOrcP_ok hT)) ftab_ok tabA_ok hL mixed 20
def ltD (xs ys : List Int) : Bool := decide (val xs < val ys)
def okVD (xs : List Int) : Bool := isD xs && decide (val xs < 9223372036854775808)
def okID (n : Int) : Bool := decide (0 ≤ n ∧ n < 9223372036854775808)
def DD (n : Int) : List Int := D n.toNat
def D0 : ND := ⟨DD, sumD, diffD, prodD, okD, sbC, ltD, val, okVD, okID⟩
theorem hTabD0_ok : HTabOk Tryz.prog (hTabD0 D0) := by
  refine addH_ok ?_ (addH_ok ?_ (addH_ok ?_ (addH_ok ?_ (addH_ok ?_ (addH_ok ?_ emptyH_ok)))))
  · intro args h c v nb hq hc
    unfold gOf at hq
    split at hq
    · cases hq; exact ⟨.of Tryz.func58 (by kernel_rfl), of51_fn (of_decide_eq_true hc)⟩
    · cases hq
  · intro args h c v nb hq hc
    unfold gAdd67 at hq
    split at hq
    · rename_i n1 xs n2 ys
      cases hq
      have hc' : (okD xs && okD ys) = true := hc
      simp only [Bool.and_eq_true] at hc'
      exact ⟨.of Tryz.func87 (by kernel_rfl), add67_fn n1 n2 hc'.1 hc'.2⟩
    · cases hq
  · intro args h c v nb hq hc
    unfold gSub69 at hq
    split at hq
    · rename_i n1 xs n2 ys
      cases hq
      exact ⟨.of Tryz.func91 (by kernel_rfl), sub69_fn n1 n2 hc⟩
    · cases hq
  · intro args h c v nb hq hc
    unfold gMul49 at hq
    split at hq
    · rename_i n1 xs n2 ys
      cases hq
      have hc' : (okD xs && okD ys) = true := hc
      simp only [Bool.and_eq_true] at hc'
      exact ⟨.of Tryz.func88 (by kernel_rfl), mul49_fn n1 n2 hc'.1 hc'.2⟩
    · cases hq
  · intro args h c v nb hq hc
    unfold gLess68 at hq
    split at hq
    · rename_i n1 xs n2 ys
      cases hq
      have hc' : (okD xs && okD ys) = true := hc
      simp only [Bool.and_eq_true] at hc'
      exact ⟨.of Tryz.func55 (by kernel_rfl), less_fn n1 n2 hc'.1 hc'.2⟩
    · cases hq
  · intro args h c v nb hq hc
    unfold gValue70 at hq
    split at hq
    · rename_i n1 xs
      cases hq
      exact ⟨.of Tryz.func59 (by kernel_rfl), value_fn n1 hc⟩
    · cases hq
theorem word_eval (N : ND) : evalFn Tryz.prog (orcD (hTabD0 N) plainL) noLoops 200 89 Tryz.f89 [] [] keepB = bif N.okI 4294967296 then some (.gs 0, [.grow false 3 1 (.ints .i64 (N.D 4294967296))]) else none := by kernel_rfl
theorem hTabD_ok : HTabOk Tryz.prog (hTabD D0) := by
  refine addH_ok ?_ hTabD0_ok
  intro args h c v nb hq hc
  unfold gWord at hq
  split at hq
  · cases hq
    refine ⟨.of Tryz.func89 (by kernel_rfl), ?_⟩
    have he := word_eval D0
    rw [show D0.okI 4294967296 = true from by show okID 4294967296 = true; unfold okID; decide, cond_true] at he
    obtain ⟨v1, h1, hk, hok⟩ := evalFn_ok (orcD_ok hTabD0_ok plainL_ok) mixed Tryz.func89 noLoops_ok he
    simp only [keepB, Option.some.injEq, Prod.mk.injEq] at hk
    obtain ⟨rfl, rfl⟩ := hk
    exact hok
  · cases hq
end Go.Proofs.YtpalajfcffdhoaaGreatDoor.N2

/- Chapter 2, the reference: the digits of a number; 2^128. -/
namespace Go.Proofs.YtpalajfcffdhoaaGreatDoor.N2
open Go Go.Eng
def ND.step (N : ND) (l : List Int) (x : Int) : List Int := N.sum (N.prod l (N.D 4294967296)) (N.D (wr .i64 x))
def ND.stepC {α : Type} (N : ND) (l : List Int) (x : Int) (K : Option α) : Option α := bif N.ok l && N.ok (N.D 4294967296) then bif N.okI (wr .i64 x) then bif N.ok (N.prod l (N.D 4294967296)) && N.ok (N.D (wr .i64 x)) then K else none else none else none
theorem digits_eval (N : ND) (a b c d : Int) : evalFn Tryz.prog (orcD (hTabD N) plainL) noLoops 200 54 Tryz.f54 [.agg [.int .u32 a, .int .u32 b, .int .u32 c, .int .u32 d]] [] lastK =
    N.stepC [] d (N.stepC (N.step [] d) c (N.stepC (N.step (N.step [] d) c) b (N.stepC (N.step (N.step (N.step [] d) c) b) a (bif decide ((N.step (N.step (N.step (N.step [] d) c) b) a).length ≤ 9223372036854775807) then
      some (false, 3, 1, .ints .i64 (List.take (tz (N.step (N.step (N.step (N.step [] d) c) b) a)).length (N.step (N.step (N.step (N.step [] d) c) b) a))) else none)))) := by kernel_rfl
theorem len_D {n K : Nat} (h : n < 10 ^ K) (hK : K ≤ 1000000) : okD (D n) = true := okD_D (Nat.le_trans (D_len_lt h) hK)
theorem okD_lt {n : Nat} (h : n < 340282366920938463463374607431768211456) : okD (D n) = true := len_D (K := 39) (Nat.lt_trans h (by decide)) (by decide)
theorem step_eq {n : Nat} {x : Int} (hn : n < 79228162514264337593543950336) (hx : 0 ≤ x ∧ x < 4294967296) : (∀ {α : Type} (K : Option α), D0.stepC (D n) x K = K) ∧ D0.step (D n) x = D (n * 4294967296 + x.toNat) := by
  have hw : wr .i64 x = x := wr64 (by omega) (by omega)
  have hDw : D0.D 4294967296 = D 4294967296 := rfl
  have hDx : D0.D x = D x.toNat := rfl
  have hp : D0.prod (D n) (D 4294967296) = D (n * 4294967296) := by
    rw [show D0.prod = prodD from rfl]
    unfold prodD
    rw [val_D, val_D]
    rw [show ((n : Int) * ((4294967296 : Nat) : Int)).toNat = n * 4294967296 by omega]
  have k1 : D0.ok (D n) = true := okD_lt (n := n) (by omega)
  have k2 : D0.ok (D 4294967296) = true := okD_lt (n := 4294967296) (by omega)
  have k3 : D0.ok (D (n * 4294967296)) = true := okD_lt (n := n * 4294967296) (by omega)
  have k4 : D0.ok (D x.toNat) = true := okD_lt (n := x.toNat) (by omega)
  have k5 : D0.okI x = true := by rw [show D0.okI = okID from rfl]; unfold okID; rw [decide_eq_true (by omega)]
  constructor
  · intro α K
    unfold ND.stepC
    rw [hw, hDw, hDx, hp, k1, k2, k3, k4, k5]; rfl
  · unfold ND.step
    rw [hw, hDw, hDx, hp, show D0.sum = sumD from rfl]
    unfold sumD
    rw [val_D, val_D]
    rw [show (((n * 4294967296 : Nat) : Int) + ((x.toNat : Nat) : Int)).toNat = n * 4294967296 + x.toNat by omega]
theorem no_blk : ∀ (b : Nat) blk, ([] : List Blk)[b]? = some blk → blk.mine = false := fun b blk h => by simp at h
theorem digits_fn {a b c d : Int} (h : inN a b c d = true) : FnOK Tryz.prog 54 [.agg [.int .u32 a, .int .u32 b, .int .u32 c, .int .u32 d]] [] (.gs 0) ([] ++ [.grow false 3 1 (.ints .i64 (DD (nval a b c d)))]) := by
  have he := digits_eval D0 a b c d
  have hr := nval_range h
  rw [inN_iff] at h
  obtain ⟨ha, hb, hc, hd⟩ := h
  obtain ⟨s1, e1⟩ := step_eq (n := 0) (by omega) hd
  obtain ⟨s2, e2⟩ := step_eq (n := 0 * 4294967296 + d.toNat) (by omega) hc
  obtain ⟨s3, e3⟩ := step_eq (n := (0 * 4294967296 + d.toNat) * 4294967296 + c.toNat) (by omega) hb
  obtain ⟨s4, e4⟩ := step_eq (n := ((0 * 4294967296 + d.toNat) * 4294967296 + c.toNat) * 4294967296 + b.toNat) (by omega) ha
  rw [show D 0 = [] from rfl] at s1 e1
  have hN : (((0 * 4294967296 + d.toNat) * 4294967296 + c.toNat) * 4294967296 + b.toNat) * 4294967296 + a.toNat = (nval a b c d).toNat := by unfold nval; omega
  have hlen : (D (nval a b c d).toNat).length ≤ 39 := D_len_lt (Nat.lt_trans (show (nval a b c d).toNat < 340282366920938463463374607431768211456 by omega) (by decide))
  rw [s1, e1, s2, e2, s3, e3, s4, e4, hN, tz_D, List.take_length, decide_eq_true (by omega), cond_true] at he
  obtain ⟨v1, h1, hk, hok⟩ := evalFn_ok (orcD_ok hTabD_ok plainL_ok) mixed Tryz.func54 noLoops_ok he
  exact lastK_fn hk hok rfl no_blk
theorem most_eval (N : ND) : evalFn Tryz.prog (orcD (hTabD N) plainL) noLoops 200 92 Tryz.f92 [] [] lastK =
    bif N.ok (N.D 4294967296) && N.ok (N.D 4294967296) then bif N.ok (N.D 4294967296) && N.ok (N.D 4294967296) then bif N.ok (N.prod (N.D 4294967296) (N.D 4294967296)) && N.ok (N.prod (N.D 4294967296) (N.D 4294967296)) then
      some (true, 3, 1, .ints .i64 (N.prod (N.prod (N.D 4294967296) (N.D 4294967296)) (N.prod (N.D 4294967296) (N.D 4294967296)))) else none else none else none := by kernel_rfl
theorem prodD_D (m n : Nat) : prodD (D m) (D n) = D (m * n) := by
  unfold prodD
  rw [val_D, val_D, ← Int.natCast_mul]; rfl
theorem most_fn : FnOK Tryz.prog 92 [] [] (.gs 0) ([] ++ [.grow true 3 1 (.ints .i64 (D 340282366920938463463374607431768211456))]) := by
  have he := most_eval D0
  have hDw : D0.D 4294967296 = D 4294967296 := rfl
  have k1 : D0.ok (D 4294967296) = true := okD_lt (n := 4294967296) (by omega)
  have k2 : D0.ok (D (4294967296 * 4294967296)) = true := okD_lt (n := 4294967296 * 4294967296) (by omega)
  rw [hDw, show D0.prod = prodD from rfl, prodD_D, prodD_D, k1, k2, show 4294967296 * 4294967296 * (4294967296 * 4294967296) = 340282366920938463463374607431768211456 from rfl] at he
  simp only [Bool.and_self, cond_true] at he
  obtain ⟨v1, h1, hk, hok⟩ := evalFn_ok (orcD_ok hTabD_ok plainL_ok) mixed Tryz.func92 noLoops_ok he
  exact lastK_fn hk hok rfl no_blk
end Go.Proofs.YtpalajfcffdhoaaGreatDoor.N2

/- Chapter 2, the reference: div: the states of its loops. -/
namespace Go.Proofs.YtpalajfcffdhoaaGreatDoor.N2
open Go Go.Eng
noncomputable def dqLp1 : Code := loopOf 4 Tryz.f56
noncomputable def dqLp2 : Code := loopOf 7 Tryz.f56
def dqT (n1 n2 : Bool) : Tm := ⟨mkS [(0, .gs 0), (1, .gs 1), (6, .gs 2), (7, .gs 3), (8, .int .i64)] 0 43, two n1 n2 ++ [.grow true 3 1 i64s, .grow false 3 1 i64s], []⟩
def dqX (n1 n2 : Bool) : Tm := ⟨mkS [(6, .gs 2), (7, .gs 3)] 0 43, two n1 n2 ++ [.grow true 3 1 i64s, .grow false 3 1 i64s], []⟩
def dqK (N : ND) (i : Int) (xs ys zs ws : List Int) (v : Int) : RT := bif decide (0 ≤ i ∧ i < nI zs) then bif decide (i.toNat < zs.length) then some (.normal, [.i i, .l xs, .l ys, .l (zs.set i.toNat (wr .i64 (v + 1))), .l (N.diff ws ys)], []) else none else none
theorem dq_round2 (n1 n2 : Bool) (N : ND) (rd : Option Nat) (i : Int) (xs ys zs ws : List Int) : roundT Tryz.prog (orcD (hTabD N) plainL) noLoops 200 2 rd 56 dqLp2 (dqT n1 n2) (dqT n1 n2) [.i i, .l xs, .l ys, .l zs, .l ws] =
    bif N.ok ws && N.ok ys then bif !N.lt ws ys then bif N.okS ws ys then atI zs i (fun v => dqK N i xs ys zs ws v) else none else some (.exit 2, [.i i, .l xs, .l ys, .l zs, .l ws], []) else none := by cases n1 <;> cases n2 <;> kernel_rfl
theorem ok_of_lt {r : Nat} {K : Nat} (h : (D r).length ≤ K) (hK : K ≤ 1000000) : okD (D r) = true := okD_D (by omega)
theorem D_mono {m n : Nat} (h : m ≤ n) : (D m).length ≤ (D n).length := by
  rcases Nat.lt_or_ge (D n).length (D m).length with h1 | h1
  · have := len_lt h1; omega
  · exact h1
theorem dq_loop2 (n1 n2 : Bool) (rd : Option Nat) (xs : List Int) (n i : Nat) (hn : 1 ≤ n) (hl : (D n).length ≤ 999999) : ∀ x : Nat × List Int, (x.1 < 10 * n ∧ i < x.2.length ∧ x.2.length ≤ 1000000 ∧ 0 ≤ x.2.getD i 0 ∧ x.2.getD i 0 + ((x.1 / n : Nat) : Int) ≤ 9) →
    SimC Tryz.prog 2 rd (.loop dqLp2) ((dqT n1 n2).at [.i (i : Int), .l xs, .l (D n), .l x.2, .l (D x.1)]) (.exit 2) ((dqT n1 n2).at [.i (i : Int), .l xs, .l (D n), .l (x.2.set i (x.2.getD i 0 + ((x.1 / n : Nat) : Int))), .l (D (x.1 % n))]) := by
  refine loop_of_rounds (C := orcD (hTabD D0) plainL) (L := noLoops) (N := 200) (me := 56) (T := dqT n1 n2) (T' := dqT n1 n2) (orcD_ok hTabD_ok plainL_ok) mixed noLoops_ok (by cases n1 <;> cases n2 <;> kernel_rfl) (by cases n1 <;> cases n2 <;> kernel_rfl) (X := Nat × List Int)
    (fun x => [.i (i : Int), .l xs, .l (D n), .l x.2, .l (D x.1)]) (fun x => x.1 < 10 * n ∧ i < x.2.length ∧ x.2.length ≤ 1000000 ∧ 0 ≤ x.2.getD i 0 ∧ x.2.getD i 0 + ((x.1 / n : Nat) : Int) ≤ 9) (fun x => x.1)
    (fun x => (.exit 2, [.i (i : Int), .l xs, .l (D n), .l (x.2.set i (x.2.getD i 0 + ((x.1 / n : Nat) : Int))), .l (D (x.1 % n))])) ?_
  rintro ⟨r, zs⟩ ⟨hr, hi, hz, h0, h9⟩
  dsimp only at hr hi hz h0 h9 ⊢
  have h := dq_round2 n1 n2 D0 rd i xs (D n) zs (D r)
  have hlen : (D r).length ≤ (D n).length + 1 := by
    refine D_len_lt ?_
    have := D_lt_pow n
    rw [Nat.pow_succ]; omega
  have k1 : D0.ok (D r) = true := ok_of_lt (r := r) (K := 1000000) (by omega) (by omega)
  have k2 : D0.ok (D n) = true := ok_of_lt (r := n) (K := 1000000) (by omega) (by omega)
  have k3 : D0.lt (D r) (D n) = decide (r < n) := by
    rw [show D0.lt = ltD from rfl]
    unfold ltD
    rw [val_D, val_D, Bool.eq_iff_iff, decide_eq_true_eq, decide_eq_true_eq]; omega
  rw [k1, k2, k3, Bool.and_self, cond_true] at h
  rcases Nat.lt_or_ge r n with hlt | hge
  · rw [decide_eq_true hlt, Bool.not_true, cond_false] at h
    rw [Nat.div_eq_of_lt hlt, Nat.mod_eq_of_lt hlt]
    have hs : zs.set i (zs.getD i 0 + ((0 : Nat) : Int)) = zs := by
      rw [show zs.getD i 0 + ((0 : Nat) : Int) = zs[i] by rw [List.getD_eq_getElem?_getD, List.getElem?_eq_getElem hi]; simp]
      exact List.set_getElem_self hi
    rw [hs]
    exact ⟨_, _, _, h, codes0, .inr ⟨by simp, rfl⟩⟩
  · have k4 : D0.okS (D r) (D n) = true := by
      rw [show D0.okS = sbC from rfl]
      unfold sbC
      rw [show okD (D r) = true from k1, show okD (D n) = true from k2, val_D, val_D, decide_eq_true (by omega)]; rfl
    have k5 : D0.diff (D r) (D n) = D (r - n) := by
      rw [show D0.diff = diffD from rfl]
      unfold diffD
      rw [val_D, val_D, show ((r : Int) - (n : Int)).toNat = r - n by omega]
    have hq : (r - n) / n + 1 = r / n := (Nat.div_eq_sub_div (by omega) hge).symm
    have hq0 := Int.natCast_nonneg (r / n)
    have hq1 := Int.natCast_nonneg ((r - n) / n)
    have hq2 : (((r - n) / n : Nat) : Int) + 1 = ((r / n : Nat) : Int) := by rw [← hq]; rfl
    have hm : (r - n) % n = r % n := (Nat.mod_eq_sub_mod hge).symm
    rw [decide_eq_false (by omega), Bool.not_false, cond_true, k4, cond_true, atI_eq (getD_some hi)] at h
    unfold dqK at h
    have hw : wr .i64 (zs.getD i 0 + 1) = zs.getD i 0 + 1 := wr64 (by omega) (by omega)
    rw [nI_eq, decide_eq_true (show 0 ≤ (i : Int) ∧ (i : Int) < (zs.length : Int) by omega), cond_true, show ((i : Int)).toNat = i from rfl, decide_eq_true hi, cond_true, hw, k5] at h
    have hg : (zs.set i (zs.getD i 0 + 1)).getD i 0 = zs.getD i 0 + 1 := by
      rw [List.getD_eq_getElem?_getD, List.getElem?_set_self hi]; rfl
    refine ⟨_, _, _, h, codes0, .inl ⟨rfl, (r - n, zs.set i (zs.getD i 0 + 1)), rfl, ⟨by dsimp only; omega, by dsimp only; rw [List.length_set]; exact hi, by dsimp only; rw [List.length_set]; exact hz, by dsimp only; rw [hg]; omega, by dsimp only; rw [hg]; omega⟩, by dsimp only; omega, ?_⟩⟩
    dsimp only
    rw [hg, hm, List.set_set, show zs.getD i 0 + 1 + (((r - n) / n : Nat) : Int) = zs.getD i 0 + ((r / n : Nat) : Int) by rw [← hq2]; omega]
def dqC (i : Int) (ys zs ws : List Int) : Bool := decide (0 ≤ i ∧ i < nI zs ∧ zs.getD i.toNat 0 = 0 ∧ zs.length ≤ 1000000) && (isD ws && (isD ys && decide (ys.length ≤ 999999 ∧ 1 ≤ val ys ∧ val ws < 10 * val ys)))
def dqTree (n1 n2 : Bool) : List PV → Fin
  | [.i i, .l xs, .l ys, .l zs, .l ws] => .br (dqC i ys zs ws) (.leaf (.exit 2) ((dqT n1 n2).at [.i i, .l xs, .l ys, .l (zs.set i.toNat (val ws / val ys)), .l (DD (val ws % val ys))])) .no
  | _ => .no
noncomputable def dqL2 (n1 n2 : Bool) : Loops := sums (fun n => match n with | 7 => some (lsumF 2 (dqT n1 n2) dqLp2 (dqTree n1 n2)) | _ => none)
theorem dqL2_ok (n1 n2 : Bool) : loopsOk Tryz.prog (dqL2 n1 n2) := by
  intro n g hg
  simp only [dqL2, sums] at hg
  split at hg
  · cases hg
    refine lsumF_ok (by cases n1 <;> cases n2 <;> kernel_rfl) (fun rd ps e1 st1 hq => ?_)
    unfold dqTree at hq
    split at hq
    · rename_i i xs ys zs ws
      simp only [Fin.pick] at hq
      cases hc : dqC i ys zs ws with
      | false => rw [hc] at hq; cases hq
      | true =>
        rw [hc, cond_true] at hq
        cases hq
        simp only [dqC, Bool.and_eq_true, decide_eq_true_eq] at hc
        obtain ⟨⟨h0, h1, h2, h3⟩, hw, hy, h4, h5, h6⟩ := hc
        obtain ⟨r, rfl⟩ := isD_eq hw
        obtain ⟨n, rfl⟩ := isD_eq hy
        rw [val_D] at h5 h6
        rw [val_D] at h6
        rw [nI_eq] at h1
        obtain ⟨k, rfl⟩ : ∃ k : Nat, i = k := ⟨i.toNat, by omega⟩
        rw [show ((k : Int)).toNat = k from rfl] at h2 ⊢
        have hq9 : r / n < 10 := (Nat.div_lt_iff_lt_mul (by omega)).2 (by omega)
        have := dq_loop2 n1 n2 rd xs n k (by omega) h4 (r, zs) ⟨by dsimp only; omega, by dsimp only; omega, h3, by dsimp only; omega, by dsimp only; omega⟩
        dsimp only at this
        rw [h2, Int.zero_add] at this
        rw [val_D, val_D]
        exact this
    · cases hq
  · cases hg
def dqW (v : Int) (ws : List Int) : List Int := List.take (tz ([v] ++ ws)).length ([v] ++ ws)
def dqN (i : Int) (xs ys zs ws : List Int) : RT := bif dqC i ys zs ws then some (.normal, [.i (wr .i64 (i - 1)), .l xs, .l ys, .l (zs.set i.toNat (val ws / val ys)), .l (DD (val ws % val ys))], []) else none
theorem dq_round1 (n1 n2 : Bool) (N : ND) (rd : Option Nat) (i : Int) (xs ys zs ws : List Int) : roundT Tryz.prog (orcD (hTabD N) plainL) (dqL2 n1 n2) 200 2 rd 56 dqLp1 (dqT n1 n2) (dqX n1 n2) [.i i, .l xs, .l ys, .l zs, .l ws] =
    bif decide (0 ≤ i) then atI xs i (fun v => bif fitL ([v] ++ ws) then bif decide (([v] ++ ws).length ≤ 9223372036854775807) then cond (codesB [(dqLp2, dqLp2)]) (dqN i xs ys zs (dqW v ws)) none else none else none) else some (.exit 0, [.l xs, .l ys, .l zs, .l ws], []) := by cases n1 <;> cases n2 <;> kernel_rfl
end Go.Proofs.YtpalajfcffdhoaaGreatDoor.N2
