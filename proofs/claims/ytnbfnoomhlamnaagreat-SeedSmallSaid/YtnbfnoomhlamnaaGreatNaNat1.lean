/- Chapter 2: plus, minus, Cmp, width, double, halve. -/
import Derived.Test.YtnbfnoomhlamnaaGreatNaW
namespace Go.Proofs.YtnbfnoomhlamnaaGreat.N2
open Go Go.Eng
/-! ### words -/
theorem wr32 {x : Int} (h1 : 0 ≤ x) (h2 : x < 4294967296) : wr .u32 x = x := by simp only [wr]; omega
theorem wrU {x : Int} (h1 : 0 ≤ x) (h2 : x < 18446744073709551616) : wr .u64 x = x := by simp only [wr]; omega
theorem wr64 {x : Int} (h1 : -9223372036854775808 ≤ x) (h2 : x < 9223372036854775808) : wr .i64 x = x := by
  simp only [wr, sgn]
  cases h : decide (9223372036854775808 ≤ x % 18446744073709551616) with
  | true => simp only [decide_eq_true_eq] at h; simp only [cond_true]; omega
  | false => simp only [decide_eq_false_iff_not] at h; simp only [cond_false]; omega
theorem bv32 (n : Nat) (h : n < 4294967296) : (BitVec.ofInt 32 (n : Int)).toNat = n := by
  simp only [BitVec.toNat_ofInt]; omega
theorem or32 {a b : Nat} (ha : a < 4294967296) (hb : b < 4294967296) : bitsI .or .u32 (a : Int) (b : Int) = ((a ||| b : Nat) : Int) := by
  unfold bitsI
  show wr .u32 (((BitVec.ofInt 32 (a : Int) ||| BitVec.ofInt 32 (b : Int)).toNat : Nat) : Int) = _
  rw [BitVec.toNat_or, bv32 a ha, bv32 b hb]
  have := Nat.or_lt_two_pow (n := 32) ha hb
  exact wr32 (by omega) (by omega)
theorem and32 {a b : Nat} (ha : a < 4294967296) (hb : b < 4294967296) : bitsI .and .u32 (a : Int) (b : Int) = ((a &&& b : Nat) : Int) := by
  unfold bitsI
  show wr .u32 (((BitVec.ofInt 32 (a : Int) &&& BitVec.ofInt 32 (b : Int)).toNat : Nat) : Int) = _
  rw [BitVec.toNat_and, bv32 a ha, bv32 b hb]
  have : a &&& b ≤ a := Nat.and_le_left
  exact wr32 (by omega) (by omega)
theorem xor32 {a b : Nat} (ha : a < 4294967296) (hb : b < 4294967296) : bitsI .xor .u32 (a : Int) (b : Int) = ((a ^^^ b : Nat) : Int) := by
  unfold bitsI
  show wr .u32 (((BitVec.ofInt 32 (a : Int) ^^^ BitVec.ofInt 32 (b : Int)).toNat : Nat) : Int) = _
  rw [BitVec.toNat_xor, bv32 a ha, bv32 b hb]
  have := Nat.xor_lt_two_pow (n := 32) ha hb
  exact wr32 (by omega) (by omega)
theorem top_bit {n : Nat} (h : n < 4294967296) : ((n : Int)).fdiv 2147483648 = if n.testBit 31 then 1 else 0 := by
  rw [show ((n : Int)).fdiv 2147483648 = ((n / 2147483648 : Nat) : Int) by rw [Int.fdiv_eq_ediv_of_nonneg _ (by omega)]; rfl, Nat.testBit_eq_decide_div_mod_eq, show (2 : Nat) ^ 31 = 2147483648 from rfl]
  by_cases h1 : n / 2147483648 % 2 = 1
  · rw [decide_eq_true h1]; simp only [if_true]; omega
  · rw [decide_eq_false h1]; simp only [Bool.false_eq_true, if_false]; omega
theorem bit31 {n : Nat} (h : n < 4294967296) : n.testBit 31 = decide (2147483648 ≤ n) := by
  rw [Nat.testBit_eq_decide_div_mod_eq, show (2 : Nat) ^ 31 = 2147483648 from rfl]
  congr 1
  rw [eq_iff_iff]; omega
/-! ### plus -/
def adS (a e c : Int) : Int := wr .u64 (wr .u64 (wr .u64 a + wr .u64 e) + c)
def adC (t : Int) : Int := wr .u64 (wr .u32 (t.fdiv 4294967296))
theorem plus_eval (a b c d e f g h : Int) : evalFn Tryz.prog (orcP tabS plainL) noLoops 200 15 Tryz.f15 [.agg [.int .u32 a, .int .u32 b, .int .u32 c, .int .u32 d], .agg [.int .u32 e, .int .u32 f, .int .u32 g, .int .u32 h]] [] (fun v _ => some v) =
    some (.tuple [.agg [.int .u32 (wr .u32 (adS a e 0)), .int .u32 (wr .u32 (adS b f (adC (adS a e 0)))), .int .u32 (wr .u32 (adS c g (adC (adS b f (adC (adS a e 0)))))), .int .u32 (wr .u32 (adS d h (adC (adS c g (adC (adS b f (adC (adS a e 0))))))))],
      .int .u32 (wr .u32 ((adS d h (adC (adS c g (adC (adS b f (adC (adS a e 0))))))).fdiv 4294967296))]) := by kernel_rfl
theorem adS_eq {a e c : Int} (ha : 0 ≤ a ∧ a < 4294967296) (he : 0 ≤ e ∧ e < 4294967296) (hc : 0 ≤ c ∧ c ≤ 1) : adS a e c = a + e + c := by
  unfold adS
  rw [wrU (x := a) (by omega) (by omega), wrU (x := e) (by omega) (by omega), wrU (x := a + e) (by omega) (by omega), wrU (by omega) (by omega)]
theorem adC_eq {t : Int} (h : 0 ≤ t ∧ t < 8589934592) : adC t = t / 4294967296 ∧ 0 ≤ t / 4294967296 ∧ t / 4294967296 ≤ 1 := by
  unfold adC
  rw [Int.fdiv_eq_ediv_of_nonneg _ (by omega), wr32 (by omega) (by omega), wrU (by omega) (by omega)]
  omega
theorem plus_p {a b c d e f g h : Int} (hx : inN a b c d = true) (hy : inN e f g h = true) :
    FnPure Tryz.prog 15 [.agg [.int .u32 a, .int .u32 b, .int .u32 c, .int .u32 d], .agg [.int .u32 e, .int .u32 f, .int .u32 g, .int .u32 h]] (.tuple [nW (nval a b c d + nval e f g h), .int .u32 ((nval a b c d + nval e f g h) / 340282366920938463463374607431768211456)]) := by
  refine fnPure_of_eval (N := 200) (orcP_ok tabS_ok plainL_ok) mixed Tryz.func15 (by kernel_rfl) noLoops_ok ?_ rfl rfl
  rw [plus_eval]
  rw [inN_iff] at hx hy
  obtain ⟨xa, xb, xc, xd⟩ := hx
  obtain ⟨ye, yf, yg, yh⟩ := hy
  rw [adS_eq (c := 0) xa ye (by omega)]
  obtain ⟨c0, c1, c2⟩ := adC_eq (t := a + e + 0) (by omega)
  rw [c0]
  generalize hc0 : (a + e + 0) / 4294967296 = k0 at *
  rw [adS_eq (c := k0) xb yf ⟨c1, c2⟩]
  obtain ⟨d0, d1, d2⟩ := adC_eq (t := b + f + k0) (by omega)
  rw [d0]
  generalize hd0 : (b + f + k0) / 4294967296 = k1 at *
  rw [adS_eq (c := k1) xc yg ⟨d1, d2⟩]
  obtain ⟨e0, e1, e2⟩ := adC_eq (t := c + g + k1) (by omega)
  rw [e0]
  generalize he0 : (c + g + k1) / 4294967296 = k2 at *
  rw [adS_eq (c := k2) xd yh ⟨e1, e2⟩]
  rw [Int.fdiv_eq_ediv_of_nonneg _ (by omega)]
  have f1 : 0 ≤ (d + h + k2) / 4294967296 ∧ (d + h + k2) / 4294967296 ≤ 1 := by omega
  rw [wr32 (x := (d + h + k2) / 4294967296) (by omega) (by omega)]
  have s : ∀ x : Int, wr .u32 x = x % 4294967296 := fun x => rfl
  rw [s, s, s, s]
  -- the sum, by its words
  have hin : inN ((a + e + 0) % 4294967296) ((b + f + k0) % 4294967296) ((c + g + k1) % 4294967296) ((d + h + k2) % 4294967296) = true := by
    rw [inN_iff]; omega
  have hsum : nval a b c d + nval e f g h = nval ((a + e + 0) % 4294967296) ((b + f + k0) % 4294967296) ((c + g + k1) % 4294967296) ((d + h + k2) % 4294967296) + 340282366920938463463374607431768211456 * ((d + h + k2) / 4294967296) := by
    unfold nval; omega
  have hr := nval_range hin
  have hmod : (nval a b c d + nval e f g h) % 340282366920938463463374607431768211456 = nval ((a + e + 0) % 4294967296) ((b + f + k0) % 4294967296) ((c + g + k1) % 4294967296) ((d + h + k2) % 4294967296) := by omega
  have hdiv : (nval a b c d + nval e f g h) / 340282366920938463463374607431768211456 = (d + h + k2) / 4294967296 := by omega
  rw [← nW_nval hin, ← hmod, nW_mod, hdiv]
/-! ### minus -/
def bwO (x y t : Int) : Int := (bitsI .or .u32 (bitsI .and .u32 (bitsI .xor .u32 4294967295 x) y) (bitsI .and .u32 (bitsI .xor .u32 4294967295 (bitsI .xor .u32 x y)) t)).fdiv 2147483648
def sbD (x y b : Int) : Int := wr .u32 (wr .u32 (x - y) - b)
theorem minus_eval (a b c d e f g h : Int) : evalFn Tryz.prog (orcP tabS plainL) noLoops 200 17 Tryz.f17 [.agg [.int .u32 a, .int .u32 b, .int .u32 c, .int .u32 d], .agg [.int .u32 e, .int .u32 f, .int .u32 g, .int .u32 h]] [] (fun v _ => some v) =
    some (.agg [.int .u32 (sbD a e 0), .int .u32 (sbD b f (bwO a e (sbD a e 0))), .int .u32 (sbD c g (bwO b f (sbD b f (bwO a e (sbD a e 0))))), .int .u32 (sbD d h (bwO c g (sbD c g (bwO b f (sbD b f (bwO a e (sbD a e 0)))))))]) := by kernel_rfl
theorem bwO_eq {x y b : Int} (hx : 0 ≤ x ∧ x < 4294967296) (hy : 0 ≤ y ∧ y < 4294967296) (hb : 0 ≤ b ∧ b ≤ 1) : sbD x y b = (x - y - b) % 4294967296 ∧ bwO x y (sbD x y b) = if x < y + b then 1 else 0 := by
  have hd : sbD x y b = (x - y - b) % 4294967296 := by
    unfold sbD
    show ((x - y) % 4294967296 - b) % 4294967296 = _
    omega
  refine ⟨hd, ?_⟩
  rw [hd]
  obtain ⟨n, rfl⟩ : ∃ n : Nat, x = n := ⟨x.toNat, by omega⟩
  obtain ⟨m, rfl⟩ : ∃ m : Nat, y = m := ⟨y.toNat, by omega⟩
  obtain ⟨t, ht⟩ : ∃ t : Nat, ((n : Int) - m - b) % 4294967296 = t := ⟨(((n : Int) - m - b) % 4294967296).toNat, by omega⟩
  rw [ht]
  have hn : n < 4294967296 := by omega
  have hm : m < 4294967296 := by omega
  have htl : t < 4294967296 := by omega
  unfold bwO
  have x1 := Nat.xor_lt_two_pow (n := 32) (x := 4294967295) (y := n) (by decide) hn
  have x2 := Nat.xor_lt_two_pow (n := 32) hn hm
  have x3 := Nat.xor_lt_two_pow (n := 32) (x := 4294967295) (y := n ^^^ m) (by decide) x2
  have a1 : (4294967295 ^^^ n) &&& m ≤ m := Nat.and_le_right
  have a2 : (4294967295 ^^^ (n ^^^ m)) &&& t ≤ t := Nat.and_le_right
  have o1 := Nat.or_lt_two_pow (n := 32) (x := (4294967295 ^^^ n) &&& m) (y := (4294967295 ^^^ (n ^^^ m)) &&& t) (by omega) (by omega)
  rw [show (4294967295 : Int) = ((4294967295 : Nat) : Int) from rfl, xor32 (by decide) hn, and32 x1 hm, xor32 hn hm, xor32 (by decide) x2, and32 x3 htl, or32 (by omega) (by omega), top_bit o1]
  rw [Nat.testBit_or, Nat.testBit_and, Nat.testBit_and, Nat.testBit_xor, Nat.testBit_xor, Nat.testBit_xor, bit31 hn, bit31 hm, bit31 htl, show (4294967295 : Nat).testBit 31 = true from rfl]
  by_cases p1 : 2147483648 ≤ n <;> by_cases p2 : 2147483648 ≤ m <;> by_cases p3 : 2147483648 ≤ t <;> simp [p1, p2, p3] <;> omega
theorem minus_p {a b c d e f g h : Int} (hx : inN a b c d = true) (hy : inN e f g h = true) (hle : nval e f g h ≤ nval a b c d) :
    FnPure Tryz.prog 17 [.agg [.int .u32 a, .int .u32 b, .int .u32 c, .int .u32 d], .agg [.int .u32 e, .int .u32 f, .int .u32 g, .int .u32 h]] (nW (nval a b c d - nval e f g h)) := by
  refine fnPure_of_eval (N := 200) (orcP_ok tabS_ok plainL_ok) mixed Tryz.func17 (by kernel_rfl) noLoops_ok ?_ rfl rfl
  rw [minus_eval]
  rw [inN_iff] at hx hy
  obtain ⟨xa, xb, xc, xd⟩ := hx
  obtain ⟨ye, yf, yg, yh⟩ := hy
  obtain ⟨d0, b0⟩ := bwO_eq xa ye (b := 0) (by omega)
  rw [b0, d0]
  generalize hk0 : (if a < e + 0 then (1 : Int) else 0) = k0
  have r0 : 0 ≤ k0 ∧ k0 ≤ 1 ∧ (a - e - 0) % 4294967296 = a - e + 4294967296 * k0 := by
    rw [← hk0]; split <;> omega
  obtain ⟨d1, b1⟩ := bwO_eq xb yf (b := k0) (by omega)
  rw [b1, d1]
  generalize hk1 : (if b < f + k0 then (1 : Int) else 0) = k1
  have r1 : 0 ≤ k1 ∧ k1 ≤ 1 ∧ (b - f - k0) % 4294967296 = b - f - k0 + 4294967296 * k1 := by
    rw [← hk1]; split <;> omega
  obtain ⟨d2, b2⟩ := bwO_eq xc yg (b := k1) (by omega)
  rw [b2, d2]
  generalize hk2 : (if c < g + k1 then (1 : Int) else 0) = k2
  have r2 : 0 ≤ k2 ∧ k2 ≤ 1 ∧ (c - g - k1) % 4294967296 = c - g - k1 + 4294967296 * k2 := by
    rw [← hk2]; split <;> omega
  obtain ⟨d3, _⟩ := bwO_eq xd yh (b := k2) (by omega)
  rw [d3]
  unfold nval at hle
  have r3 : (d - h - k2) % 4294967296 = d - h - k2 := by
    have : 0 ≤ d - h - k2 := by omega
    omega
  have hin : inN ((a - e - 0) % 4294967296) ((b - f - k0) % 4294967296) ((c - g - k1) % 4294967296) ((d - h - k2) % 4294967296) = true := by
    rw [inN_iff]; omega
  rw [← nW_nval hin]
  congr 2
  unfold nval
  omega
/-! ### Cmp -/
def cmpI (x y : Int) : Int := bif decide (x < y) then -1 else bif decide (y < x) then 1 else 0
theorem cmp_eval (a b c d e f g h : Int) : evalFn Tryz.prog (orcP tabS plainL) noLoops 200 16 Tryz.f16 [.agg [.int .u32 a, .int .u32 b, .int .u32 c, .int .u32 d], .agg [.int .u32 e, .int .u32 f, .int .u32 g, .int .u32 h]] [] (fun v _ => some v) =
    bif decide (d < h) then some (.int .i64 (-1)) else bif decide (h < d) then some (.int .i64 1) else bif decide (c < g) then some (.int .i64 (-1)) else bif decide (g < c) then some (.int .i64 1) else
    bif decide (b < f) then some (.int .i64 (-1)) else bif decide (f < b) then some (.int .i64 1) else bif decide (a < e) then some (.int .i64 (-1)) else bif decide (e < a) then some (.int .i64 1) else some (.int .i64 0) := by kernel_rfl
theorem cmp_p {a b c d e f g h : Int} (hx : inN a b c d = true) (hy : inN e f g h = true) :
    FnPure Tryz.prog 16 [.agg [.int .u32 a, .int .u32 b, .int .u32 c, .int .u32 d], .agg [.int .u32 e, .int .u32 f, .int .u32 g, .int .u32 h]] (.int .i64 (cmpI (nval a b c d) (nval e f g h))) := by
  refine fnPure_of_eval (N := 200) (orcP_ok tabS_ok plainL_ok) mixed Tryz.func16 (by kernel_rfl) noLoops_ok ?_ rfl rfl
  rw [cmp_eval]
  rw [inN_iff] at hx hy
  have key : ∀ v : Int, (v = -1 ∧ nval a b c d < nval e f g h ∨ v = 1 ∧ nval e f g h < nval a b c d ∨ v = 0 ∧ nval e f g h = nval a b c d) → v = cmpI (nval a b c d) (nval e f g h) := by
    intro v hv
    unfold cmpI
    rcases hv with ⟨rfl, h1⟩ | ⟨rfl, h1⟩ | ⟨rfl, h1⟩
    · rw [decide_eq_true h1]; rfl
    · rw [decide_eq_false (by omega), decide_eq_true h1]; rfl
    · rw [h1, decide_eq_false (by omega)]; rfl
  have fin : ∀ v : Int, (v = -1 ∧ nval a b c d < nval e f g h ∨ v = 1 ∧ nval e f g h < nval a b c d ∨ v = 0 ∧ nval e f g h = nval a b c d) → some (V.int .i64 v) = some (V.int .i64 (cmpI (nval a b c d) (nval e f g h))) := fun v hv => by rw [key v hv]
  by_cases p1 : d < h
  · rw [decide_eq_true p1]; exact fin _ (by unfold nval; omega)
  by_cases p2 : h < d
  · rw [decide_eq_false p1, decide_eq_true p2]; exact fin _ (by unfold nval; omega)
  by_cases p3 : c < g
  · rw [decide_eq_false p1, decide_eq_false p2, decide_eq_true p3]; exact fin _ (by unfold nval; omega)
  by_cases p4 : g < c
  · rw [decide_eq_false p1, decide_eq_false p2, decide_eq_false p3, decide_eq_true p4]; exact fin _ (by unfold nval; omega)
  by_cases p5 : b < f
  · rw [decide_eq_false p1, decide_eq_false p2, decide_eq_false p3, decide_eq_false p4, decide_eq_true p5]; exact fin _ (by unfold nval; omega)
  by_cases p6 : f < b
  · rw [decide_eq_false p1, decide_eq_false p2, decide_eq_false p3, decide_eq_false p4, decide_eq_false p5, decide_eq_true p6]; exact fin _ (by unfold nval; omega)
  by_cases p7 : a < e
  · rw [decide_eq_false p1, decide_eq_false p2, decide_eq_false p3, decide_eq_false p4, decide_eq_false p5, decide_eq_false p6, decide_eq_true p7]; exact fin _ (by unfold nval; omega)
  by_cases p8 : e < a
  · rw [decide_eq_false p1, decide_eq_false p2, decide_eq_false p3, decide_eq_false p4, decide_eq_false p5, decide_eq_false p6, decide_eq_false p7, decide_eq_true p8]; exact fin _ (by unfold nval; omega)
  · rw [decide_eq_false p1, decide_eq_false p2, decide_eq_false p3, decide_eq_false p4, decide_eq_false p5, decide_eq_false p6, decide_eq_false p7, decide_eq_false p8]; exact fin _ (by unfold nval; omega)
/-! ### width -/
def wdI (z : Int) : Int := Lib.bitLen z.toNat
theorem width_eval (a b c d : Int) : evalFn Tryz.prog (orcP tabS plainL) noLoops 200 81 Tryz.f81 [.agg [.int .u32 a, .int .u32 b, .int .u32 c, .int .u32 d]] [] (fun v _ => some v) =
    bif !decide (d = 0) then bif inW d then some (.int .i64 (wr .i64 (96 + lenI d))) else none else bif !decide (c = 0) then bif inW c then some (.int .i64 (wr .i64 (64 + lenI c))) else none else
    bif !decide (b = 0) then bif inW b then some (.int .i64 (wr .i64 (32 + lenI b))) else none else bif !decide (a = 0) then bif inW a then some (.int .i64 (wr .i64 (0 + lenI a))) else none else some (.int .i64 0) := by kernel_rfl
/-! ### halve -/
def hvI (a low : Int) : Int := bitsI .or .u32 (a.fdiv (2 ^ shAmt .u32 1)) (wr .u32 (low * 2 ^ shAmt .u32 31))
def loI (a : Int) : Int := bitsI .and .u32 a 1
theorem halve_eval (a b c d : Int) : evalFn Tryz.prog (orcP tabS plainL) noLoops 200 83 Tryz.f83 [.agg [.int .u32 a, .int .u32 b, .int .u32 c, .int .u32 d]] [] (fun v _ => some v) = some (.agg [.int .u32 (hvI a (loI b)), .int .u32 (hvI b (loI c)), .int .u32 (hvI c (loI d)), .int .u32 (hvI d 0)]) := by kernel_rfl
theorem loI_eq {a : Int} (h : 0 ≤ a ∧ a < 4294967296) : loI a = a % 2 := by
  obtain ⟨n, rfl⟩ : ∃ n : Nat, a = n := ⟨a.toNat, by omega⟩
  unfold loI
  rw [show (1 : Int) = ((1 : Nat) : Int) from rfl, and32 (by omega) (by decide), Nat.and_one_is_mod]
  omega
theorem hvI_eq {a l : Int} (h : 0 ≤ a ∧ a < 4294967296) (hl : 0 ≤ l ∧ l ≤ 1) : hvI a l = a / 2 + 2147483648 * l := by
  obtain ⟨n, rfl⟩ : ∃ n : Nat, a = n := ⟨a.toNat, by omega⟩
  obtain ⟨k, rfl⟩ : ∃ k : Nat, l = k := ⟨l.toNat, by omega⟩
  unfold hvI
  have e1 : ((n : Int)).fdiv (2 ^ shAmt .u32 1) = ((n / 2 : Nat) : Int) := by
    rw [show (2 : Int) ^ shAmt .u32 1 = 2 from rfl, Int.fdiv_eq_ediv_of_nonneg _ (by omega)]; rfl
  have e2 : wr .u32 ((k : Int) * 2 ^ shAmt .u32 31) = ((2147483648 * k : Nat) : Int) := by
    rw [show (2 : Int) ^ shAmt .u32 31 = 2147483648 from rfl, wr32 (by omega) (by omega)]; omega
  rw [e1, e2, or32 (by omega) (by omega)]
  have : n / 2 ||| 2147483648 * k = n / 2 + 2147483648 * k := by
    have h2 := Nat.two_pow_add_eq_or_of_lt (i := 31) (b := n / 2) (by omega) k
    rw [Nat.or_comm, ← h2]; omega
  rw [this]; omega
theorem halve_p {a b c d : Int} (hx : inN a b c d = true) : FnPure Tryz.prog 83 [.agg [.int .u32 a, .int .u32 b, .int .u32 c, .int .u32 d]] (nW (nval a b c d / 2)) := by
  refine fnPure_of_eval (N := 200) (orcP_ok tabS_ok plainL_ok) mixed Tryz.func83 (by kernel_rfl) noLoops_ok ?_ rfl rfl
  rw [halve_eval]
  rw [inN_iff] at hx
  obtain ⟨xa, xb, xc, xd⟩ := hx
  rw [loI_eq xb, loI_eq xc, loI_eq xd, hvI_eq xa (by omega), hvI_eq xb (by omega), hvI_eq xc (by omega), hvI_eq xd (by omega)]
  have hin : inN (a / 2 + 2147483648 * (b % 2)) (b / 2 + 2147483648 * (c % 2)) (c / 2 + 2147483648 * (d % 2)) (d / 2 + 2147483648 * 0) = true := by
    rw [inN_iff]; omega
  rw [← nW_nval hin]
  congr 2
  unfold nval
  omega
end Go.Proofs.YtnbfnoomhlamnaaGreat.N2
