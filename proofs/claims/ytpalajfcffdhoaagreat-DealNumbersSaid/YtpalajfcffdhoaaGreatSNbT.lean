/- Texts merged: SNbT, SNbR, SPow. -/
import Derived.Test.YtpalajfcffdhoaaGreatSFrame
import Derived.Test.YtpalajfcffdhoaaGreatANat8
/- Chapter 3: BelowNat: contracts of nat as names alone; the states of the loop in which it draws. -/
namespace Go.Proofs.YtpalajfcffdhoaaGreat.N3
open Go Go.Eng
/-- nat's functions, as names alone. -/
structure NB where
  w0 : Int → Int
  w1 : Int → Int
  w2 : Int → Int
  w3 : Int → Int
  z : Int → Int → Int → Int → Int
  inn : Int → Int → Int → Int → Bool
  add : Int → Int → Int
  addE : Int → Int → Int
  sub : Int → Int → Int
  subE : Int → Int → Int
  mul : Int → Int → Int
  mulE : Int → Int → Int
  quo : Int → Int → Int
  rem : Int → Int → Int
  divE : Int → Int
  cmp : Int → Int → Int
  /-- The loop's state and value: k, state, limit, value. -/
  ls : Nat → Int → Int → Int → Int
  lv : Nat → Int → Int → Int → Int
/-- A draw of so many values: the state and the sum. -/
def drawN : Nat → Int → Int → Int → Int × Int
  | 0, s, a, _ => (s, a)
  | k + 1, s, a, c => drawN k (mulP s 48271) (N2.addZ a (N2.mulZ c (mulP s 48271 - 1))) (N2.mulZ c 2147483646)
/-- The state and the value after at most so many draws more. -/
def natR (k : Nat) (m : Int) : Nat → Int → Int → Int × Int
  | 0, s, v => (s, v)
  | n + 1, s, v => bif decide (v < m) then (s, v) else natR k m n (drawN k s 0 1).1 (drawN k s 0 1).2
def nB : NB := ⟨N2.w0, N2.w1, N2.w2, N2.w3, N2.nval, N2.inN, N2.addZ, N2.addE, N2.subZ, N2.subE, N2.mulZ, N2.mulE, N2.divZ, N2.remZ, N2.divE, N2.cmpI, fun k s m v => (natR k m 100 s v).1, fun k s m v => (natR k m 100 s v).2⟩
def NB.nW (N : NB) (x : Int) : V := .agg [.int .u32 (N.w0 x), .int .u32 (N.w1 x), .int .u32 (N.w2 x), .int .u32 (N.w3 x)]
def gTwoB (N : NB) (F : Int → Int → V) : List V → Option (Bool × V)
  | [.agg [.int .u32 a, .int .u32 b, .int .u32 c, .int .u32 d], .agg [.int .u32 e, .int .u32 f, .int .u32 g, .int .u32 h]] => some (N.inn a b c d && N.inn e f g h, F (N.z a b c d) (N.z e f g h))
  | _ => none
def tabB (N : NB) : PTab := addTab 31 (gTwoB N fun x y => .tuple [N.nW (N.add x y), .int .i64 (N.addE x y)]) (addTab 20 (gTwoB N fun x y => .tuple [N.nW (N.sub x y), .int .i64 (N.subE x y)])
  (addTab 28 (gTwoB N fun x y => .tuple [N.nW (N.quo x y), N.nW (N.rem x y), .int .i64 (N.divE y)]) (addTab 26 (gTwoB N fun x y => .int .i64 (N.cmp x y)) emptyTab)))
def gMulB (N : NB) : List V → List Blk → Option (Bool × V × List Blk)
  | [.gs 0], [.rs true 4 (.ints .u32 [a, b, c, d, e, f, g, h])] => some (N.inn a b c d && N.inn e f g h, .tuple [N.nW (N.mul (N.z a b c d) (N.z e f g h)), .int .i64 (N.mulE (N.z a b c d) (N.z e f g h))], [])
  | _, _ => none
def hTabBn (N : NB) : HTab := addH 27 (gMulB N) emptyH
def dom23 : FuncId → Bool := fun f => Nat.beq f 27
noncomputable abbrev orcB (N : NB) (LL : FuncId → Loops) : Oracle := inl Tryz.prog ftab (tabB N) LL 200 never dom23 (hOrc (hTabBn N)) 20
noncomputable def nbLp : Code := loopOf 3 Tryz.f32
def i4 : TR := .vs [.int .u32, .int .u32, .int .u32, .int .u32]
def deads : Nat → List TB
  | 0 => []
  | n + 1 => .dead :: deads n
/-- The state in round: k values a draw; the blocks of BelowNat's first: the state, the number, the answer, the base, k, all; the slices of the products; two quotients, the limit. -/
def z4 : TR := .vs [.lit .u32 0, .lit .u32 0, .lit .u32 0, .lit .u32 0]
def nbT (k : Nat) : Tm := ⟨mkS [(0, .func 29 [.ptr 4 0, .ptr 0 0, .ptr 3 0]), (1, .func 33 [.ptr (7 + k) 0]), (4, .ptr (8 + k) 0), (5, .ptr (9 + k) 0), (8, .int .i64)] 0 17,
  [.own 25 (.vs [.int .i64]), .own 35 i4, .own 35 i4, .own 35 i4, .own 3 (.vs [.lit .i64 k]), .dead] ++ deads (k + 1) ++ [.own 35 i4, .own 35 z4, .own 35 i4], []⟩
def nbX (k : Nat) : Tm := ⟨mkS [(4, .ptr (8 + k) 0), (5, .ptr (9 + k) 0)] 0 17,
  [.own 25 (.vs [.int .i64]), .own 35 i4, .own 35 i4, .own 35 i4, .own 3 (.vs [.lit .i64 k]), .dead] ++ deads (k + 1) ++ [.own 35 i4, .own 35 z4, .own 35 i4], []⟩
end Go.Proofs.YtpalajfcffdhoaaGreat.N3

/- Chapter 3: BelowNat: one round of the loop in which it draws. -/
namespace Go.Proofs.YtpalajfcffdhoaaGreat.N3
open Go Go.Eng
abbrev RTb := Option (XE × List PV × List (Code × Code))
/-- A draw of so many values: the words of the sum and of the scale. -/
noncomputable def nbD {R : Type} (N : NB) (b0 b1 b2 b3 : Int) : Nat → Int → Int → Int → Int → Int → Int → Int → Int → Int → (Int → Int → Int → Int → Int → Option R) → Option R
  | 0, s, a0, a1, a2, a3, _, _, _, _, K => K s a0 a1 a2 a3
  | k + 1, s, a0, a1, a2, a3, c0, c1, c2, c3, K => bif N.inn c0 c1 c2 c3 && N.inn (wr .u32 (wr .i64 (mulP s 48271 - 1))) 0 0 0 then
      bif N.inn a0 a1 a2 a3 && N.inn (N.w0 (N.mul (N.z c0 c1 c2 c3) (N.z (wr .u32 (wr .i64 (mulP s 48271 - 1))) 0 0 0))) (N.w1 (N.mul (N.z c0 c1 c2 c3) (N.z (wr .u32 (wr .i64 (mulP s 48271 - 1))) 0 0 0))) (N.w2 (N.mul (N.z c0 c1 c2 c3) (N.z (wr .u32 (wr .i64 (mulP s 48271 - 1))) 0 0 0))) (N.w3 (N.mul (N.z c0 c1 c2 c3) (N.z (wr .u32 (wr .i64 (mulP s 48271 - 1))) 0 0 0))) then
      bif N.inn c0 c1 c2 c3 && N.inn b0 b1 b2 b3 then
        (fun A C => nbD N b0 b1 b2 b3 k (mulP s 48271) (N.w0 A) (N.w1 A) (N.w2 A) (N.w3 A) (N.w0 C) (N.w1 C) (N.w2 C) (N.w3 C) K)
          (N.add (N.z a0 a1 a2 a3) (N.z (N.w0 (N.mul (N.z c0 c1 c2 c3) (N.z (wr .u32 (wr .i64 (mulP s 48271 - 1))) 0 0 0))) (N.w1 (N.mul (N.z c0 c1 c2 c3) (N.z (wr .u32 (wr .i64 (mulP s 48271 - 1))) 0 0 0))) (N.w2 (N.mul (N.z c0 c1 c2 c3) (N.z (wr .u32 (wr .i64 (mulP s 48271 - 1))) 0 0 0))) (N.w3 (N.mul (N.z c0 c1 c2 c3) (N.z (wr .u32 (wr .i64 (mulP s 48271 - 1))) 0 0 0)))))
          (N.mul (N.z c0 c1 c2 c3) (N.z b0 b1 b2 b3)) else none else none else none
noncomputable def nbE (N : NB) (k : Nat) (i s n0 n1 n2 n3 r0 r1 r2 r3 b0 b1 b2 b3 m0 m1 m2 m3 v0 v1 v2 v3 : Int) : RTb :=
  bif decide (i < 100) then bif N.inn v0 v1 v2 v3 && N.inn m0 m1 m2 m3 then bif decide (N.cmp (N.z v0 v1 v2 v3) (N.z m0 m1 m2 m3) < 0) then some (.exit 0, [.i s, .i n0, .i n1, .i n2, .i n3, .i r0, .i r1, .i r2, .i r3, .i b0, .i b1, .i b2, .i b3, .i m0, .i m1, .i m2, .i m3, .i v0, .i v1, .i v2, .i v3], []) else
    nbD N b0 b1 b2 b3 k s 0 0 0 0 1 0 0 0 (fun s' a0 a1 a2 a3 => some (.normal, [.i (wr .i64 (i + 1)), .i s', .i n0, .i n1, .i n2, .i n3, .i r0, .i r1, .i r2, .i r3, .i b0, .i b1, .i b2, .i b3, .i m0, .i m1, .i m2, .i m3, .i a0, .i a1, .i a2, .i a3], [])) else none
  else some (.exit 0, [.i s, .i n0, .i n1, .i n2, .i n3, .i r0, .i r1, .i r2, .i r3, .i b0, .i b1, .i b2, .i b3, .i m0, .i m1, .i m2, .i m3, .i v0, .i v1, .i v2, .i v3], [])
theorem nb_round (N : NB) (rd : Option Nat) (i s n0 n1 n2 n3 r0 r1 r2 r3 b0 b1 b2 b3 m0 m1 m2 m3 v0 v1 v2 v3 : Int) : ∀ k : Nat, 1 ≤ k ∧ k ≤ 4 →
    roundT Tryz.prog (orcB N plainL) noLoops 200 (8 + k) rd 32 nbLp (nbT k) (nbX k) [.i i, .i s, .i n0, .i n1, .i n2, .i n3, .i r0, .i r1, .i r2, .i r3, .i b0, .i b1, .i b2, .i b3, .i m0, .i m1, .i m2, .i m3, .i v0, .i v1, .i v2, .i v3] =
      nbE N k i s n0 n1 n2 n3 r0 r1 r2 r3 b0 b1 b2 b3 m0 m1 m2 m3 v0 v1 v2 v3
  | 0, h => by omega
  | 1, _ => by kernel_rfl
  | 2, _ => by kernel_rfl
  | 3, _ => by kernel_rfl
  | 4, _ => by kernel_rfl
  | _ + 5, h => by omega
end Go.Proofs.YtpalajfcffdhoaaGreat.N3

/- Chapter 3: the powers of the factor modulo the prime. -/
namespace Go.Proofs.YtpalajfcffdhoaaGreat.N3
open Go Go.Eng

theorem mulP_nat {a b : Nat} (ha : a < 2147483647) (hb : b < 2147483647) : mulP a b = ((a * b % 2147483647 : Nat) : Int) := by
  have h : a * b ≤ 2147483646 * 2147483646 := Nat.mul_le_mul (by omega) (by omega)
  have e : (a : Int) * (b : Int) = ((a * b : Nat) : Int) := by simp
  unfold mulP
  rw [e, wr64 (by omega) (by omega), Int.tmod_eq_emod_of_nonneg (by omega)]
  omega
def J (s e : Nat) : Nat := s * 48271 ^ e % 2147483647
theorem pow_sq (p k : Nat) : (p * p) ^ k = p ^ (2 * k) := by rw [Nat.pow_mul, Nat.pow_two]
theorem sq_mod (a p k : Nat) : a * (p * p % 2147483647) ^ k % 2147483647 = a * p ^ (2 * k) % 2147483647 := by
  rw [Nat.mul_mod, ← Nat.pow_mod, ← Nat.mul_mod, pow_sq]
theorem jumpR_nat : ∀ (l p a : Nat), p < 2147483647 → a < 2147483647 → jumpR p l a = ((a * p ^ l % 2147483647 : Nat) : Int) := by
  intro l
  induction l using Nat.strongRecOn with
  | _ l ih =>
    intro p a hp ha
    rw [jumpR]
    rcases Nat.eq_zero_or_pos l with h0 | h0
    · subst h0
      rw [dif_neg (by omega), Nat.pow_zero, Nat.mul_one, Nat.mod_eq_of_lt ha]
    · rw [dif_pos (by omega), mulP_nat hp hp]
      have e2 : ((l : Int) / 2) = ((l / 2 : Nat) : Int) := by omega
      have hpp : p * p % 2147483647 < 2147483647 := Nat.mod_lt _ (by omega)
      rw [e2]
      cases ho : decide ((l : Int).tmod 2 = 1) with
      | true =>
        simp only [decide_eq_true_eq] at ho
        rw [Int.tmod_eq_emod_of_nonneg (by omega)] at ho
        rw [cond_true, mulP_nat ha hp, ih (l / 2) (by omega) _ _ hpp (Nat.mod_lt _ (by omega)), sq_mod]
        rw [Nat.mod_mul_mod]
        congr 2
        have e3 : l = 2 * (l / 2) + 1 := by omega
        rw [Nat.mul_assoc]
        conv => rhs; rw [e3, Nat.pow_succ, Nat.mul_comm (p ^ (2 * (l / 2))) p]
      | false =>
        simp only [decide_eq_false_iff_not] at ho
        rw [Int.tmod_eq_emod_of_nonneg (by omega)] at ho
        rw [cond_false, ih (l / 2) (by omega) _ _ hpp ha, sq_mod]
        have e3 : 2 * (l / 2) = l := by omega
        rw [e3]
def pm : Nat → Nat → Nat → Nat → Nat
  | 0, _, _, a => a
  | f + 1, p, l, a => pm f (p * p % 2147483647) (l / 2) (bif Nat.beq (l % 2) 1 then a * p % 2147483647 else a)
theorem pm_eq : ∀ (f p l a : Nat), l < 2 ^ f → pm f p l a % 2147483647 = a * p ^ l % 2147483647
  | 0, p, l, a, h => by
    have : l = 0 := by omega
    subst this
    simp [pm]
  | f + 1, p, l, a, h => by
    have h2 : l / 2 < 2 ^ f := by rw [Nat.pow_succ] at h; omega
    rw [pm, pm_eq f _ _ _ h2, sq_mod]
    cases ho : Nat.beq (l % 2) 1 with
    | true =>
      have ho := Nat.eq_of_beq_eq_true ho
      rw [cond_true, Nat.mod_mul_mod]
      congr 1
      have e3 : l = 2 * (l / 2) + 1 := by omega
      rw [Nat.mul_assoc]
      conv => rhs; rw [e3, Nat.pow_succ, Nat.mul_comm (p ^ (2 * (l / 2))) p]
    | false =>
      have ho : l % 2 ≠ 1 := fun e => by rw [e] at ho; cases ho
      rw [cond_false]
      have e3 : 2 * (l / 2) = l := by omega
      rw [e3]
theorem order {v : Nat} (hv : v = 2147483646) : 48271 ^ v % 2147483647 = 1 := by
  have h := pm_eq 31 48271 v 1 (by rw [hv]; decide)
  rw [Nat.one_mul] at h
  rw [← h, hv]
  decide +kernel
theorem pow_cycle (n : Nat) : 48271 ^ n % 2147483647 = 48271 ^ (n % 2147483646) % 2147483647 := by
  obtain ⟨v, hv⟩ : ∃ v, v = 2147483646 := ⟨_, rfl⟩
  rw [← hv]
  have e : n = v * (n / v) + n % v := (Nat.div_add_mod n v).symm
  conv => lhs; rw [e, Nat.pow_add, Nat.pow_mul, Nat.mul_mod, Nat.pow_mod, order hv, Nat.one_pow]
  rw [Nat.mod_eq_of_lt (show 1 < 2147483647 by omega), Nat.one_mul, Nat.mod_mod]
theorem J_lt (s e : Nat) : J s e < 2147483647 := Nat.mod_lt _ (by omega)
theorem J_J (s a b : Nat) : J (J s a) b = J s (a + b) := by
  unfold J
  rw [Nat.mod_mul_mod, Nat.mul_assoc, ← Nat.pow_add]
theorem J_cycle (s e : Nat) : J s e = J s (e % 2147483646) := by
  unfold J
  rw [Nat.mul_mod, pow_cycle, ← Nat.mul_mod]
theorem J_zero {s : Nat} (h : s < 2147483647) : J s 0 = s := by simp [J, Nat.mod_eq_of_lt h]
theorem J_pos {s : Nat} (h : 1 ≤ s) (h' : s < 2147483647) (e : Nat) : 1 ≤ J s e := by
  rcases Nat.eq_zero_or_pos (J s e) with h0 | h0
  · have h1 : J (J s e) (2147483646 - e % 2147483646) = s := by
      rw [J_cycle s e, J_J, J_cycle]
      have : (e % 2147483646 + (2147483646 - e % 2147483646)) % 2147483646 = 0 := by omega
      rw [this, J_zero h']
    rw [h0] at h1
    simp [J] at h1
    omega
  · exact h0

theorem rest_eq (k : Int) : restI k = k % 2147483646 := by
  have h1 := Int.tmod_add_mul_tdiv k 2147483646
  have h2 := Int.tmod_lt_of_pos k (show (0 : Int) < 2147483646 by omega)
  have h3 : -2147483646 < k.tmod 2147483646 := by
    rcases Int.le_total 0 k with h | h
    · have := Int.tmod_nonneg 2147483646 h; omega
    · have h4 := Int.tmod_lt_of_pos (-k) (show (0 : Int) < 2147483646 by omega)
      rw [Int.neg_tmod] at h4
      omega
  unfold restI
  generalize k.tmod 2147483646 = t at *
  generalize k.tdiv 2147483646 = q at *
  cases h : decide (t < 0) with
  | true =>
    simp only [decide_eq_true_eq] at h
    rw [cond_true, wr64 (by omega) (by omega)]
    omega
  | false =>
    simp only [decide_eq_false_iff_not] at h
    rw [cond_false]
    omega
theorem right_iff {s : Int} : rightB s = true ↔ 1 ≤ s ∧ s ≤ 2147483646 := by simp [rightB]
theorem jumpI_nat {s : Nat} (h : 1 ≤ s) (h' : s < 2147483647) (k : Int) : jumpI s k = ((J s (k % 2147483646).toNat : Nat) : Int) := by
  have hr : rightB (s : Int) = true := right_iff.2 ⟨by omega, by omega⟩
  unfold jumpI
  rw [hr, cond_true, rest_eq]
  have e : k % 2147483646 = (((k % 2147483646).toNat : Nat) : Int) := by omega
  conv => lhs; rw [e]
  exact jumpR_nat _ 48271 s (by omega) h'
theorem J_right {s : Nat} (h : 1 ≤ s) (h' : s < 2147483647) (e : Nat) : rightB ((J s e : Nat) : Int) = true := by
  have h1 := J_pos h h' e
  have h2 := J_lt s e
  exact right_iff.2 ⟨by omega, by omega⟩
/-- Jumps add up. -/
theorem jump_add {s : Nat} (h : 1 ≤ s) (h' : s < 2147483647) (x y z : Int) (hz : (x + y) % 2147483646 = z % 2147483646) : jumpI (jumpI s x) y = jumpI s z := by
  rw [jumpI_nat h h', jumpI_nat (J_pos h h' _) (J_lt _ _), jumpI_nat h h', J_J, J_cycle]
  congr 2
  omega
theorem jump_none {s : Nat} (h : 1 ≤ s) (h' : s < 2147483647) {z : Int} (hz : z % 2147483646 = 0) : jumpI s z = s := by
  rw [jumpI_nat h h', hz]
  simp [J_zero h']
theorem next_jump {s : Nat} (h : 1 ≤ s) (h' : s < 2147483647) : nextS s = jumpI s 1 := by
  have hr : rightB (s : Int) = true := right_iff.2 ⟨by omega, by omega⟩
  rw [jumpI_nat h h']
  unfold nextS
  rw [hr, cond_true]
  have := mulP_nat h' (show 48271 < 2147483647 by omega)
  rw [show ((48271 : Nat) : Int) = 48271 from rfl] at this
  rw [this]
  simp [J]
theorem next_value {s : Nat} (h : 1 ≤ s) (h' : s < 2147483647) : nextV s = nextS s - 1 := by
  have h0 := next_jump h h'
  have hr : rightB (s : Int) = true := right_iff.2 ⟨by omega, by omega⟩
  have hj := jumpI_nat h h' 1
  have h1 := J_pos h h' (1 % 2147483646 : Int).toNat
  have h2 := J_lt s (1 % 2147483646 : Int).toNat
  unfold nextS at h0 ⊢
  unfold nextV
  rw [hr, cond_true] at h0 ⊢
  rw [cond_true, h0, hj, wr64 (by omega) (by omega)]
end Go.Proofs.YtpalajfcffdhoaaGreat.N3
