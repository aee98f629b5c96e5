/- Texts merged: Dm5, Dm4, Dm6, Bt, Base, Oth, SubT, SubR. -/
import Derived.Test.YtpalajfcffdhoaaGreatDoorDm2
import Derived.Test.YtpalajfcffdhoaaGreatDoorEng4
import Derived.Test.YtpalajfcffdhoaaGreatDoorDm
import Derived.Test.YtpalajfcffdhoaaGreatDoorANat6
import Derived.Test.YtpalajfcffdhoaaGreatDoorACh3
/- Chapter 6, plainly: the deal that numbers make is right. -/
namespace Go.Deal
def swp (ys : List Int) (i j : Nat) : List Int := (ys.set i (ys.getD j 0)).set j (ys.getD i 0)
def dl : Nat → List Int → List Int → List Int
  | _, [], xs => xs
  | i, n :: l, xs => if i < 52 then dl (i + 1) l (swp xs i (i + (n.toNat % (52 - i)))) else xs
def or0 : List Int := (List.range 52).map Int.ofNat
def dlX (l : List Int) : List Int := dl 0 l or0
def hnd (l : List Int) (k : Nat) : Nat := mk 0 ((((dlX l).drop (13 * k)).take 13).map Int.toNat)
end Go.Deal

/- Chapter 6, plainly: as many completions for a turned deal; of one card, all seats together. -/
namespace Go.Deal
def fct : Nat → Nat
  | 0 => 1
  | n + 1 => (n + 1) * fct n
theorem fct_pos : ∀ n, 0 < fct n
  | 0 => by decide
  | n + 1 => Nat.mul_pos (by omega) (fct_pos n)
theorem bc_fct : ∀ a b : Nat, bc (a + b) a * (fct a * fct b) = fct (a + b)
  | 0, b => by rw [bc_zero, Nat.one_mul]; simp [fct]
  | a + 1, 0 => by rw [Nat.add_zero, bc_self]; simp [fct]
  | a + 1, b + 1 => by
    have h1 := bc_fct a (b + 1)
    have h2 := bc_fct (a + 1) b
    have e1 : a + 1 + (b + 1) = (a + b + 1) + 1 := by omega
    have e2 : a + (b + 1) = a + b + 1 := by omega
    have e3 : a + 1 + b = a + b + 1 := by omega
    rw [e2] at h1
    rw [e3] at h2
    rw [e1, bc, Nat.add_mul]
    have q1 : bc (a + b + 1) a * (fct (a + 1) * fct (b + 1)) = (a + 1) * fct (a + b + 1) := by
      rw [← h1, show fct (a + 1) = (a + 1) * fct a from rfl, Nat.mul_assoc (a + 1), Nat.mul_left_comm]
    have q2 : bc (a + b + 1) (a + 1) * (fct (a + 1) * fct (b + 1)) = (b + 1) * fct (a + b + 1) := by
      rw [← h2, show fct (b + 1) = (b + 1) * fct b from rfl, Nat.mul_left_comm (fct (a + 1)), Nat.mul_left_comm]
    rw [q1, q2, show fct (a + b + 1 + 1) = (a + b + 1 + 1) * fct (a + b + 1) from rfl, ← Nat.add_mul]
    congr 1
end Go.Deal

/- Chapter 6, plainly: a card that is left, put into a hand; deals turned; what is no partial deal. -/
namespace Go.Deal
theorem put_lt {a c : Nat} (hc : c < 52) (h : a < 2 ^ 52) : a ||| 2 ^ c < 2 ^ 52 := or_lt h (Nat.pow_lt_pow_right (by decide) hc)
namespace PartD
variable {a b c d i : Nat}
end PartD
end Go.Deal

/- Chapter 6: the machine's operations on sets of cards, plainly. -/
namespace Go.Deal
open Go Go.Eng
theorem wrU {n : Nat} (h : n < 18446744073709551616) : wr .u64 (n : Int) = n := by
  simp only [wr]; omega
theorem wr64 {x : Int} (h1 : -9223372036854775808 ≤ x) (h2 : x < 9223372036854775808) : wr .i64 x = x := by
  simp only [wr, Eng.sgn]
  cases h : decide (9223372036854775808 ≤ x % 18446744073709551616) with
  | true => simp only [decide_eq_true_eq] at h; simp only [cond_true]; omega
  | false => simp only [decide_eq_false_iff_not] at h; simp only [cond_false]; omega
theorem bv_of (n : Nat) (h : n < 18446744073709551616) : (BitVec.ofInt 64 (n : Int)).toNat = n := by
  simp only [BitVec.toNat_ofInt]; omega
theorem and_nat {a b : Nat} (ha : a < 18446744073709551616) (hb : b < 18446744073709551616) : bitsI .and .u64 (a : Int) (b : Int) = ((a &&& b : Nat) : Int) := by
  unfold bitsI
  show wr .u64 (((BitVec.ofInt 64 (a : Int) &&& BitVec.ofInt 64 (b : Int)).toNat : Nat) : Int) = _
  rw [BitVec.toNat_and, bv_of a ha, bv_of b hb, wrU]
  exact Nat.lt_of_le_of_lt Nat.and_le_left ha
theorem or_nat {a b : Nat} (ha : a < 18446744073709551616) (hb : b < 18446744073709551616) : bitsI .or .u64 (a : Int) (b : Int) = ((a ||| b : Nat) : Int) := by
  unfold bitsI
  show wr .u64 (((BitVec.ofInt 64 (a : Int) ||| BitVec.ofInt 64 (b : Int)).toNat : Nat) : Int) = _
  rw [BitVec.toNat_or, bv_of a ha, bv_of b hb, wrU]
  exact Nat.or_lt_two_pow (n := 64) ha hb
theorem andNot_nat {a b : Nat} (ha : a < 18446744073709551616) (hb : b < 18446744073709551616) : bitsI .andNot .u64 (a : Int) (b : Int) = ((nd a b : Nat) : Int) := by
  unfold bitsI
  have e : (BitVec.ofInt 64 (a : Int) &&& ~~~(BitVec.ofInt 64 (b : Int))).toNat = nd a b := by
    refine Nat.eq_of_testBit_eq fun i => ?_
    rw [BitVec.toNat_and, Nat.testBit_and, bv_of a ha, nd_bit]
    by_cases hi : i < 64
    · congr 1
      rw [BitVec.testBit_toNat, BitVec.getLsbD_not, ← BitVec.testBit_toNat, bv_of b hb]
      simp [hi]
    · rw [Nat.testBit_lt_two_pow (Nat.lt_of_lt_of_le ha (Nat.pow_le_pow_right (n := 2) (by decide) (show 64 ≤ i by omega)))]; rfl
  show wr .u64 (((BitVec.ofInt 64 (a : Int) &&& ~~~(BitVec.ofInt 64 (b : Int))).toNat : Nat) : Int) = _
  rw [wrU (BitVec.isLt _), e]
theorem bit1 {q : Nat} (hq : q < 64) : wr .u64 (1 * 2 ^ shAmt .u64 (q : Int)) = ((2 ^ q : Nat) : Int) := by
  have sh : shAmt .u64 (q : Int) = q := by
    unfold shAmt
    show min ((q : Int)).toNat 64 = q
    omega
  have h64 : (2 : Nat) ^ q < 2 ^ 64 := Nat.pow_lt_pow_right (by decide) hq
  rw [sh, Int.one_mul, show (2 : Int) ^ q = ((2 ^ q : Nat) : Int) by rw [Int.natCast_pow]; rfl, wrU (by omega)]
def cntI (x : Int) : Int := ((cnt x.toNat 64 : Nat) : Int)
def oc1 (x : Int) : Int := wr .u64 (bitsI .and .u64 (x.fdiv 2) 6148914691236517205 + bitsI .and .u64 x 6148914691236517205)
def oc2 (x : Int) : Int := wr .u64 (bitsI .and .u64 (x.fdiv 4) 3689348814741910323 + bitsI .and .u64 x 3689348814741910323)
def oc3 (x : Int) : Int := bitsI .and .u64 (wr .u64 (x.fdiv 16 + x)) 1085102592571150095
def oc4 (x : Int) : Int := wr .u64 (x + x.fdiv 256)
def oc5 (x : Int) : Int := wr .u64 (x + x.fdiv 65536)
def oc6 (x : Int) : Int := wr .u64 (x + x.fdiv 4294967296)
def ocI (m : Int) : Int := bitsI .and .i64 (wr .i64 (oc6 (oc5 (oc4 (oc3 (oc2 (oc1 m))))))) 127
theorem fdivN (a b : Nat) (hb : 0 < b) : (a : Int).fdiv (b : Int) = ((a / b : Nat) : Int) := by
  rw [Int.fdiv_eq_ediv_of_nonneg _ (by omega)]; rfl
theorem andI (a M : Nat) (ha : a < 18446744073709551616) (hM : M < 18446744073709551616) : bitsI .and .u64 (a : Int) (M : Int) = ((a &&& M : Nat) : Int) := and_nat ha hM
theorem oc1_eq {m : Nat} (h : m < 18446744073709551616) : oc1 (m : Int) = ((h1 m 6148914691236517205 : Nat) : Int) ∧ h1 m 6148914691236517205 < 18446744073709551616 := by
  have a1 : (m / 2 &&& 6148914691236517205) ≤ 6148914691236517205 := Nat.and_le_right
  have a2 : (m &&& 6148914691236517205) ≤ 6148914691236517205 := Nat.and_le_right
  have e : oc1 (m : Int) = wr .u64 (bitsI .and .u64 ((m : Int).fdiv ((2 : Nat) : Int)) ((6148914691236517205 : Nat) : Int) + bitsI .and .u64 (m : Int) ((6148914691236517205 : Nat) : Int)) := rfl
  have l : h1 m 6148914691236517205 < 18446744073709551616 := by unfold h1; omega
  refine ⟨?_, l⟩
  rw [e, fdivN _ _ (by decide), andI _ _ (by omega) (by decide), andI _ _ h (by decide), ← Int.natCast_add]
  exact wrU l
theorem oc2_eq {m : Nat} (h : m < 18446744073709551616) : oc2 (m : Int) = ((h2 m 3689348814741910323 : Nat) : Int) ∧ h2 m 3689348814741910323 < 18446744073709551616 := by
  have a1 : (m / 4 &&& 3689348814741910323) ≤ 3689348814741910323 := Nat.and_le_right
  have a2 : (m &&& 3689348814741910323) ≤ 3689348814741910323 := Nat.and_le_right
  have e : oc2 (m : Int) = wr .u64 (bitsI .and .u64 ((m : Int).fdiv ((4 : Nat) : Int)) ((3689348814741910323 : Nat) : Int) + bitsI .and .u64 (m : Int) ((3689348814741910323 : Nat) : Int)) := rfl
  have l : h2 m 3689348814741910323 < 18446744073709551616 := by unfold h2; omega
  refine ⟨?_, l⟩
  rw [e, fdivN _ _ (by decide), andI _ _ (by omega) (by decide), andI _ _ h (by decide), ← Int.natCast_add]
  exact wrU l
theorem h2_small (x M : Nat) (hM : M = 3689348814741910323) : h2 x M ≤ 7378697629483820646 := by
  subst hM
  have a1 : (x / 4 &&& 3689348814741910323) ≤ 3689348814741910323 := Nat.and_le_right
  have a2 : (x &&& 3689348814741910323) ≤ 3689348814741910323 := Nat.and_le_right
  unfold h2; omega
theorem oc3_eq {m : Nat} (h : m ≤ 7378697629483820646) : oc3 (m : Int) = ((h3 m 1085102592571150095 : Nat) : Int) := by
  have e : oc3 (m : Int) = bitsI .and .u64 (wr .u64 ((m : Int).fdiv ((16 : Nat) : Int) + (m : Int))) ((1085102592571150095 : Nat) : Int) := rfl
  rw [e, fdivN _ _ (by decide), ← Int.natCast_add, wrU (by omega), andI _ _ (by omega) (by decide)]
  rfl
theorem oc_eq {m : Nat} (h : m < 18446744073709551616) : ocI (m : Int) = cntI (m : Int) := by
  obtain ⟨q1, q2⟩ := pc_is h
  obtain ⟨e1, l1⟩ := oc1_eq h
  obtain ⟨e2, l2⟩ := oc2_eq l1
  have e3 := oc3_eq (h2_small (h1 m 6148914691236517205) _ rfl)
  unfold ocI cntI
  rw [e1, e2, e3, Int.toNat_natCast, ← q1]
  dsimp only [pcN]
  generalize h3 (h2 (h1 m 6148914691236517205) 3689348814741910323) 1085102592571150095 = a at *
  have s4 : oc4 (a : Int) = ((a + a / 256 : Nat) : Int) := by
    have e : oc4 (a : Int) = wr .u64 ((a : Int) + (a : Int).fdiv ((256 : Nat) : Int)) := rfl
    rw [e, fdivN _ _ (by decide), ← Int.natCast_add, wrU (by omega)]
  rw [s4]
  have hb : a + a / 256 ≤ 600000000000000000 := by omega
  generalize a + a / 256 = b at *
  have s5 : oc5 (b : Int) = ((b + b / 65536 : Nat) : Int) := by
    have e : oc5 (b : Int) = wr .u64 ((b : Int) + (b : Int).fdiv ((65536 : Nat) : Int)) := rfl
    rw [e, fdivN _ _ (by decide), ← Int.natCast_add, wrU (by omega)]
  rw [s5]
  have hc : b + b / 65536 ≤ 700000000000000000 := by omega
  generalize b + b / 65536 = c at *
  have s6 : oc6 (c : Int) = ((c + c / 4294967296 : Nat) : Int) := by
    have e : oc6 (c : Int) = wr .u64 ((c : Int) + (c : Int).fdiv ((4294967296 : Nat) : Int)) := rfl
    rw [e, fdivN _ _ (by decide), ← Int.natCast_add, wrU (by omega)]
  rw [s6]
  have hd : c + c / 4294967296 ≤ 800000000000000000 := by omega
  generalize c + c / 4294967296 = d at *
  rw [wr64 (by omega) (by omega)]
  have : ∀ x : Nat, x < 9223372036854775808 → bitsI .and .i64 (x : Int) 127 = ((x &&& 127 : Nat) : Int) := fun x hx => by
    unfold bitsI
    show wr .i64 (((BitVec.ofInt 64 (x : Int) &&& BitVec.ofInt 64 ((127 : Nat) : Int)).toNat : Nat) : Int) = _
    rw [BitVec.toNat_and, bv_of x (by omega), bv_of 127 (by decide)]
    have : (x &&& 127) ≤ 127 := Nat.and_le_right
    rw [wr64 (by omega) (by omega)]
  exact this d (by omega)
end Go.Deal

/- Chapter 6: the program, with what is known of nat, bits and card as names alone. -/
namespace Go.Proofs.YtpalajfcffdhoaaGreatDoor
open Go Go.Eng
noncomputable def ftab : FTab := fun i => Tryz.prog.funcs[i]?
theorem ftab_ok : FTabOk Tryz.prog ftab := fun _ _ h => h
theorem mixed : Tryz.prog.follows .mixedOrders = true := by kernel_rfl
def never : FuncId → Bool := fun _ => false
def plainL : FuncId → Loops := fun _ => noLoops
theorem plainL_ok : ∀ f, loopsOk Tryz.prog (plainL f) := fun _ => noLoops_ok
structure N6 where
  w0 : Int → Int
  w1 : Int → Int
  w2 : Int → Int
  w3 : Int → Int
  z : Int → Int → Int → Int → Int
  inn : Int → Int → Int → Int → Bool
  add : Int → Int → Int
  addE : Int → Int → Int
  sub : Int → Int → Int
  subE : Int → Int → Int
  mul : Int → Int → Int
  mulE : Int → Int → Int
  quo : Int → Int → Int
  rem : Int → Int → Int
  divE : Int → Int
  cmp : Int → Int → Int
  ch : Int → Int → Int
  chE : Int → Int
  oc : Int → Int
  len : Int → Int
  u : Int → Bool
def in64 (x : Int) : Bool := decide (0 ≤ x ∧ x < 18446744073709551616)
theorem in64_iff {x : Int} : in64 x = true ↔ 0 ≤ x ∧ x < 18446744073709551616 := by unfold in64; simp
def lenI (x : Int) : Int := Lib.bitLen x.toNat
def n6 : N6 := ⟨N2.w0, N2.w1, N2.w2, N2.w3, N2.nval, N2.inN, N2.addZ, N2.addE, N2.subZ, N2.subE, N2.mulZ, N2.mulE, N2.divZ, N2.remZ, N2.divE, N2.cmpI, N2.chZ, N2.chE, Deal.cntI, lenI, in64⟩
def N6.nW (N : N6) (x : Int) : V := .agg [.int .u32 (N.w0 x), .int .u32 (N.w1 x), .int .u32 (N.w2 x), .int .u32 (N.w3 x)]
def N6.q (N : N6) (x : Int) : Int := N.z (N.w0 x) (N.w1 x) (N.w2 x) (N.w3 x)
def N6.i (N : N6) (x : Int) : Bool := N.inn (N.w0 x) (N.w1 x) (N.w2 x) (N.w3 x)
def gTwo (N : N6) (F : Int → Int → V) : List V → Option (Bool × V)
  | [.agg [.int .u32 a, .int .u32 b, .int .u32 c, .int .u32 d], .agg [.int .u32 e, .int .u32 f, .int .u32 g, .int .u32 h]] => some (N.inn a b c d && N.inn e f g h, F (N.z a b c d) (N.z e f g h))
  | _ => none
def gCh (N : N6) : List V → Option (Bool × V)
  | [.int .i64 n, .int .i64 k] => some (true, .tuple [N.nW (N.ch n k), .int .i64 (N.chE n)])
  | _ => none
def gOc (N : N6) : List V → Option (Bool × V)
  | [.int .u64 x] => some (N.u x, .int .i64 (N.oc x))
  | _ => none
def gLn (N : N6) : List V → Option (Bool × V)
  | [.int .u64 x] => some (N.u x, .int .i64 (N.len x))
  | _ => none
def tabN (N : N6) : PTab := addTab 68 (gTwo N fun x y => .tuple [N.nW (N.add x y), .int .i64 (N.addE x y)]) (addTab 42 (gTwo N fun x y => .tuple [N.nW (N.sub x y), .int .i64 (N.subE x y)])
  (addTab 63 (gTwo N fun x y => .tuple [N.nW (N.quo x y), N.nW (N.rem x y), .int .i64 (N.divE y)]) (addTab 61 (gTwo N fun x y => .int .i64 (N.cmp x y)) (addTab 79 (gCh N) (addTab 50 (gOc N) (addTab 111 (gLn N) emptyTab))))))
def gMul (N : N6) : List V → List Blk → Option (Bool × V × List Blk)
  | [.gs 0], [.rs true 4 (.ints .u32 [a, b, c, d, e, f, g, h])] => some (N.inn a b c d && N.inn e f g h, .tuple [N.nW (N.mul (N.z a b c d) (N.z e f g h)), .int .i64 (N.mulE (N.z a b c d) (N.z e f g h))], [])
  | _, _ => none
def hTabN (N : N6) : HTab := addH 66 (gMul N) emptyH
def domN : FuncId → Bool := fun f => Nat.beq f 66
def nrN : FuncId → Option Row := fun _ => none
noncomputable abbrev orcN (N : N6) (T : PTab) (LL : FuncId → Loops) : Oracle := inl Tryz.prog ftab T LL 100 never domN (hOrcP nrN (hTabN N)) 20
theorem hTabN_ok : HTabOk Tryz.prog (hTabN n6) := N2.hTabM_ok
theorem oc_eval (m : Int) : evalFn Tryz.prog (N2.orcP emptyTab plainL) noLoops 100 50 Tryz.f50 [.int .u64 m] [] (fun v _ => some v) = some (.int .i64 (Deal.ocI m)) := by kernel_rfl
theorem oc_p {m : Int} (h : in64 m = true) : FnPure Tryz.prog 50 [.int .u64 m] (.int .i64 (Deal.cntI m)) := by
  rw [in64_iff] at h
  refine fnPure_of_eval (N := 100) (N2.orcP_ok emptyTab_ok plainL_ok) mixed Tryz.func50 (by kernel_rfl) noLoops_ok ?_ rfl rfl
  rw [oc_eval]
  obtain ⟨n, rfl⟩ : ∃ n : Nat, m = n := ⟨m.toNat, by omega⟩
  rw [Deal.oc_eq (by omega)]
theorem tabN_ok : PTabOk Tryz.prog (tabN n6) := by
  refine addTab_ok ?_ (addTab_ok ?_ (addTab_ok ?_ (addTab_ok ?_ (addTab_ok ?_ (addTab_ok ?_ (addTab_ok ?_ emptyTab_ok))))))
  · intro args c v h hc
    unfold gTwo at h
    split at h
    · cases h; rw [Bool.and_eq_true] at hc; exact N2.add_p hc.1 hc.2
    · cases h
  · intro args c v h hc
    unfold gTwo at h
    split at h
    · cases h; rw [Bool.and_eq_true] at hc; exact N2.sub_p hc.1 hc.2
    · cases h
  · intro args c v h hc
    unfold gTwo at h
    split at h
    · cases h; rw [Bool.and_eq_true] at hc; exact N2.div_p hc.1 hc.2
    · cases h
  · intro args c v h hc
    unfold gTwo at h
    split at h
    · cases h; rw [Bool.and_eq_true] at hc; exact N2.cmp_p hc.1 hc.2
    · cases h
  · intro args c v h hc
    unfold gCh at h
    split at h
    · cases h; exact N2.choose_p _ _
    · cases h
  · intro args c v h hc
    unfold gOc at h
    split at h
    · cases h; exact oc_p hc
    · cases h
  · intro args c v h hc
    unfold gLn at h
    split at h
    · cases h
      have h2 := in64_iff.1 hc
      exact pure_of_same (.of Tryz.func111 (by kernel_rfl)) rfl rfl fun w => Tryz.bits_Len64 _ w h2.1 (by omega)
    · cases h
theorem orcN_ok {T : PTab} (hT : PTabOk Tryz.prog T) {LL : FuncId → Loops} (hL : ∀ f, loopsOk Tryz.prog (LL f)) : OracleOk Tryz.prog (orcN n6 T LL) := inl_ok (hOrcP_ok hTabN_ok) ftab_ok hT hL mixed 20
end Go.Proofs.YtpalajfcffdhoaaGreatDoor

/- Chapter 6: others, without: their formulas. -/
namespace Go.Proofs.YtpalajfcffdhoaaGreatDoor
open Go Go.Eng
section
variable (N : N6)
def nd1 (x : Int) : Int := wr .i64 (13 - N.oc x)
def cd3 (d : Int) : Int := wr .i64 (0 + nd1 N d)
def cd2 (c d : Int) : Int := wr .i64 (cd3 N d + nd1 N c)
def cd1 (b c d : Int) : Int := wr .i64 (cd2 N c d + nd1 N b)
def cd0 (a b c d : Int) : Int := wr .i64 (cd1 N b c d + nd1 N a)
def ow3 (d : Int) : Int := N.mul (N.z 1 0 0 0) (N.q (N.ch (cd3 N d) (nd1 N d)))
def ow2 (c d : Int) : Int := N.mul (N.q (ow3 N d)) (N.q (N.ch (cd2 N c d) (nd1 N c)))
def ow1 (b c d : Int) : Int := N.mul (N.q (ow2 N c d)) (N.q (N.ch (cd1 N b c d) (nd1 N b)))
def ow0 (a b c d : Int) : Int := N.mul (N.q (ow1 N b c d)) (N.q (N.ch (cd0 N a b c d) (nd1 N a)))
theorem oth_eval (a b c d : Int) : evalFn Tryz.prog (orcN N (tabN N) plainL) noLoops 100 45 Tryz.f45 [.agg [.int .u64 a, .int .u64 b, .int .u64 c, .int .u64 d]] [] (fun v _ => some v) =
    bif N.u d then bif N.inn 1 0 0 0 && N.i (N.ch (cd3 N d) (nd1 N d)) then bif N.u c then bif N.i (ow3 N d) && N.i (N.ch (cd2 N c d) (nd1 N c)) then
    bif N.u b then bif N.i (ow2 N c d) && N.i (N.ch (cd1 N b c d) (nd1 N b)) then bif N.u a then bif N.i (ow1 N b c d) && N.i (N.ch (cd0 N a b c d) (nd1 N a)) then
      some (.agg [.int .u32 (N.w0 (ow0 N a b c d)), .int .u32 (N.w1 (ow0 N a b c d)), .int .u32 (N.w2 (ow0 N a b c d)), .int .u32 (N.w3 (ow0 N a b c d)), .int .u32 (N.w0 (ow1 N b c d)), .int .u32 (N.w1 (ow1 N b c d)), .int .u32 (N.w2 (ow1 N b c d)), .int .u32 (N.w3 (ow1 N b c d)), .int .u32 (N.w0 (ow2 N c d)), .int .u32 (N.w1 (ow2 N c d)), .int .u32 (N.w2 (ow2 N c d)), .int .u32 (N.w3 (ow2 N c d)), .int .u32 (N.w0 (ow3 N d)), .int .u32 (N.w1 (ow3 N d)), .int .u32 (N.w2 (ow3 N d)), .int .u32 (N.w3 (ow3 N d)), .int .u32 1, .int .u32 0, .int .u32 0, .int .u32 0])
    else none else none else none else none else none else none else none else none := by kernel_rfl
def wtI (z n k : Int) : Int := N.quo (N.q (N.mul z (N.z (wr .u32 (wr .i64 (n - k))) 0 0 0))) (N.z (wr .u32 n) 0 0 0)
theorem wt_eval (a b c d n k : Int) : evalFn Tryz.prog (orcN N (tabN N) plainL) noLoops 100 96 Tryz.f96 [.agg [.int .u32 a, .int .u32 b, .int .u32 c, .int .u32 d], .int .i64 n, .int .i64 k] [] (fun v _ => some v) =
    bif N.inn a b c d && N.inn (wr .u32 (wr .i64 (n - k))) 0 0 0 then bif N.i (N.mul (N.z a b c d) (N.z (wr .u32 (wr .i64 (n - k))) 0 0 0)) && N.inn (wr .u32 n) 0 0 0 then some (N.nW (wtI N (N.z a b c d) n k)) else none else none := by kernel_rfl
end
end Go.Proofs.YtpalajfcffdhoaaGreatDoor

/- Chapter 6: subset and order: the states of their loops. -/
namespace Go.Proofs.YtpalajfcffdhoaaGreatDoor
open Go Go.Eng
def gWt (N : N6) (K : Int → Int → Int → Bool) (W : Int → Int → Int → Int) : List V → Option (Bool × V)
  | [.agg [.int .u32 a, .int .u32 b, .int .u32 c, .int .u32 d], .int .i64 n, .int .i64 k] => some (N.inn a b c d && K (N.z a b c d) n k, N.nW (W (N.z a b c d) n k))
  | _ => none
def tabW (N : N6) (K : Int → Int → Int → Bool) (W : Int → Int → Int → Int) : PTab := addTab 96 (gWt N K W) (tabN N)
def o : Option TV := none
def i1 : TR := .vs [.int .i64]
def u1 : TR := .vs [.int .u64]
def n4 : TR := .vs [.int .u32, .int .u32, .int .u32, .int .u32]
noncomputable def sbA : Code := rangeA 6 Tryz.f64
noncomputable def sbB : Code := rangeB 6 Tryz.f64
noncomputable def sbLp : Code := loopOf 1 Tryz.f117
def sbF : TS := mkS [(4, .ptr 0 0), (5, .ptr 1 0), (7, .ptr 2 0), (8, .ptr 3 0), (9, .ptr 4 0)] 0 56
noncomputable def sbBl (st : LSt) : List TB := [.own 3 i1, .own 34 n4, .own 22 u1, .own 3 i1, .own 34 n4, .own 22 u1, .defs, .loopB st 64 sbF [23] sbA sbB 6]
noncomputable def sbT : Tm := ⟨mkS [(0, .yield 7), (1, .ptr 5 0), (3, .int .u64)] 0 19, sbBl .ready, []⟩
noncomputable def sbX : Tm := ⟨mkS [] 0 19, sbBl .ready, []⟩
noncomputable def sbD : Tm := ⟨mkS [] 0 19, sbBl (.done (.exit 0)), []⟩
end Go.Proofs.YtpalajfcffdhoaaGreatDoor

/- Chapter 6: subset: one round. -/
namespace Go.Proofs.YtpalajfcffdhoaaGreatDoor
open Go Go.Eng
noncomputable def sbE : XE → Tm
  | .ret => sbD
  | _ => sbX
theorem sbE_ok : ∀ e, (sbE e).ok = true := fun e => by cases e <;> kernel_rfl
abbrev RT := Option (XE × List PV × List (Code × Code))
noncomputable def sbSt (e : XE) (l : List PV) : RT := some (e, l, [(sbA, sbA), (sbB, sbB)])
def shlI (c : Int) : Int := wr .u64 (1 * 2 ^ shAmt .u64 c)
section
variable (N : N6) (K : Int → Int → Int → Bool) (W : Int → Int → Int → Int)
noncomputable def sbK (r c k i0 i1 i2 i3 g n c0 c1 c2 c3 m f : Int) : RT :=
  bif N.inn i0 i1 i2 i3 && N.i f then
    bif decide (N.cmp (N.z i0 i1 i2 i3) (N.q f) < 0) then bif decide (c < 0) then none else
      sbSt .normal [.i (bitsI .andNot .u64 r (shlI c)), .i k, .i i0, .i i1, .i i2, .i i3, .i g, .i (wr .i64 (n - 1)), .i (N.w0 f), .i (N.w1 f), .i (N.w2 f), .i (N.w3 f), .i m]
    else bif decide (c < 0) then none else bif N.inn i0 i1 i2 i3 && N.i f then bif N.inn c0 c1 c2 c3 && N.i f then bif decide (c < 0) then none else
      sbSt .normal [.i (bitsI .andNot .u64 r (shlI c)), .i (wr .i64 (k - 1)), .i (N.w0 (N.sub (N.z i0 i1 i2 i3) (N.q f))), .i (N.w1 (N.sub (N.z i0 i1 i2 i3) (N.q f))), .i (N.w2 (N.sub (N.z i0 i1 i2 i3) (N.q f))), .i (N.w3 (N.sub (N.z i0 i1 i2 i3) (N.q f))),
        .i (bitsI .or .u64 g (shlI c)), .i (wr .i64 (n - 1)), .i (N.w0 (N.sub (N.z c0 c1 c2 c3) (N.q f))), .i (N.w1 (N.sub (N.z c0 c1 c2 c3) (N.q f))), .i (N.w2 (N.sub (N.z c0 c1 c2 c3) (N.q f))), .i (N.w3 (N.sub (N.z c0 c1 c2 c3) (N.q f))), .i m]
    else none else none
  else none
noncomputable def sbN (r c k i0 i1 i2 i3 g n c0 c1 c2 c3 m : Int) : RT := bif !decide (r = 0) then bif N.u r then
  bif decide (k = 0) then sbSt .ret [.i k, .i i0, .i i1, .i i2, .i i3, .i g, .i n, .i c0, .i c1, .i c2, .i c3, .i m]
  else bif N.inn c0 c1 c2 c3 && K (N.z c0 c1 c2 c3) n k then sbK N r c k i0 i1 i2 i3 g n c0 c1 c2 c3 m (W (N.z c0 c1 c2 c3) n k) else none
  else none else sbSt (.exit 0) [.i k, .i i0, .i i1, .i i2, .i i3, .i g, .i n, .i c0, .i c1, .i c2, .i c3, .i m]
theorem sb_round (rd : Option Nat) (r k i0 i1 i2 i3 g n c0 c1 c2 c3 m : Int) : roundX Tryz.prog (orcN N (tabW N K W) plainL) noLoops 100 8 rd 117 sbLp sbT sbT sbE [.i r, .i k, .i i0, .i i1, .i i2, .i i3, .i g, .i n, .i c0, .i c1, .i c2, .i c3, .i m] =
    sbN N K W r (wr .i64 (N.len r - 1)) k i0 i1 i2 i3 g n c0 c1 c2 c3 m := by kernel_rfl
end
end Go.Proofs.YtpalajfcffdhoaaGreatDoor
