/- Texts merged: Ring2, Cho. -/
import Derived.Test.YthpdeiolhahobaaDoorRing
import Derived.Test.YthpdeiolhahobaaDoorPas
/- Chapter 2: the law NatRing: the loop as a whole; the law's formula. -/
namespace Go.Proofs.YthpdeiolhahobaaDoor
open Go Go.Eng
/-- The numbers of the chapter. -/
def N0 : NV := ⟨nval, w0, w1, w2, w3, inN, addZ, addE, mulZ, mulE⟩
theorem tabN_ok : PTabOk Tryd.prog (tabV N0) := by
  refine addTab_ok ?_ (addTab_ok ?_ emptyTab_ok)
  · intro args c v h hc
    unfold gAddV at h
    split at h
    · cases h
      have hc' : (inN _ _ _ _ && inN _ _ _ _) = true := hc
      simp only [Bool.and_eq_true] at hc'
      exact add_p hc'.1 hc'.2
    · cases h
  · intro args c v h _
    unfold gAwake at h
    split at h
    · cases h; exact awake_p
    · cases h
theorem hTabN_ok : HTabOk Tryd.prog (hTabV N0) := by
  refine addH_ok ?_ emptyH_ok
  intro args h c v nb hq hc
  unfold gMulV at hq
  split at hq
  · cases hq
    have hc' : (inN _ _ _ _ && inN _ _ _ _) = true := hc
    simp only [Bool.and_eq_true] at hc'
    exact ⟨.of Tryd.func21 (by kernel_rfl), mul_fn hc'.1 hc'.2⟩
  · cases hq
theorem orcN_ok : OracleOk Tryd.prog (orcV N0) := inl_ok (hOrc_ok hTabN_ok) ftab_ok tabN_ok plainL_ok mixed 20
noncomputable def rgTree (N : NV) : List PV → Fin
  | .i q :: .i ix :: .i a :: .i b :: .i c :: .i d :: .i e :: .i f :: .i g :: .i h :: .i i :: .i j :: .i k :: .i l :: r => .br (decide (ix = 0) && (N.inn a b c d && (N.inn e f g h && N.inn i j k l))) (.leaf (.exit 2) (rgX.at (.i q :: .i a :: .i b :: .i c :: .i d :: .i e :: .i f :: .i g :: .i h :: .i i :: .i j :: .i k :: .i l :: r))) .no
  | _ => .no
noncomputable def rgL (N : NV) : Loops := sums (fun n => match n with | 8 => some (lsumF 0 rgT rgLp (rgTree N)) | _ => none)
def fls2 : Option V := some (.bool false)
def rgFour (N : NV) (A B C : Int) (ia ib ic : Bool) (K : Option V) : Option V :=
  bif ib && ic then bif ia && N.iq (N.add B C) then bif ia && ib then bif ia && ic then bif N.iq (N.mul A B) && N.iq (N.mul A C) then
  bif decide (wr .i64 (N.addE B C + N.mulE A (N.q4 (N.add B C))) = 0) then bif !decide (wr .i64 (wr .i64 (N.mulE A B + N.mulE A C) + N.addE (N.q4 (N.mul A B)) (N.q4 (N.mul A C))) = 0) then fls2 else
    bif !N.eqN (N.mul A (N.q4 (N.add B C))) (N.add (N.q4 (N.mul A B)) (N.q4 (N.mul A C))) then fls2 else K else K
  else none else none else none else none else none
theorem ring_eval (N : NV) (a b c d e f g h i j k l x y z : Int) : evalFn Tryd.prog (orcV N) (rgL N) 200 6 Tryd.f6 [.agg [.int .u32 a, .int .u32 b, .int .u32 c, .int .u32 d], .agg [.int .u32 e, .int .u32 f, .int .u32 g, .int .u32 h], .agg [.int .u32 i, .int .u32 j, .int .u32 k, .int .u32 l], .int .u32 x, .int .u32 y, .int .u32 z] [] (fun v _ => some v) =
    cond (codesB [(rgLp, rgLp)]) (bif decide ((0 : Int) = 0) && (N.inn a b c d && (N.inn e f g h && N.inn i j k l)) then rgFour N (N.z a b c d) (N.z e f g h) (N.z i j k l) (N.inn a b c d) (N.inn e f g h) (N.inn i j k l)
      (cond (codesB [(rgLp, rgLp)]) (bif decide ((0 : Int) = 0) && (N.inn x 0 0 0 && (N.inn y 0 0 0 && N.inn z 0 0 0)) then rgFour N (N.z x 0 0 0) (N.z y 0 0 0) (N.z z 0 0 0) (N.inn x 0 0 0) (N.inn y 0 0 0) (N.inn z 0 0 0) (some (.bool true)) else none) none) else none) none := by kernel_rfl
/-! ### plainly -/
structure IsOp (f g op : Int → Int → Int) : Prop where
  val : ∀ x y, f x y = if op x y < 340282366920938463463374607431768211456 then op x y else 0
  err : ∀ x y, g x y = if op x y < 340282366920938463463374607431768211456 then 0 else 3
  comm : ∀ x y, op x y = op y x
  assoc : ∀ x y z, op (op x y) z = op x (op y z)
  nonneg : ∀ x y, 0 ≤ x → 0 ≤ y → 0 ≤ op x y
theorem bif_if (p : Prop) [Decidable p] (a b : Int) : (bif decide p then a else b) = if p then a else b := by
  by_cases h : p
  · rw [decide_eq_true h, if_pos h]; rfl
  · rw [decide_eq_false h, if_neg h]; rfl
theorem isAdd : IsOp addZ addE (· + ·) := ⟨fun _ _ => bif_if _ _ _, fun _ _ => bif_if _ _ _, Int.add_comm, Int.add_assoc, fun _ _ h1 h2 => Int.add_nonneg h1 h2⟩
theorem isMul : IsOp mulZ mulE (· * ·) := ⟨fun _ _ => bif_if _ _ _, fun _ _ => bif_if _ _ _, Int.mul_comm, Int.mul_assoc, fun _ _ h1 h2 => Int.mul_nonneg h1 h2⟩
theorem iq0 (x : Int) : N0.iq x = true := inN_w x
theorem eqN_self (x : Int) : N0.eqN x x = true := by unfold NV.eqN; simp
theorem q40 {z : Int} (h : 0 ≤ z ∧ z < 340282366920938463463374607431768211456) : N0.q4 z = z := nval_id h
theorem err_cases {f g op : Int → Int → Int} (h : IsOp f g op) (x y : Int) : (g x y = 0 ∧ f x y = op x y ∧ op x y < 340282366920938463463374607431768211456) ∨ (g x y = 3 ∧ f x y = 0) := by
  have h1 := h.val x y
  have h2 := h.err x y
  split at h1
  · rename_i hl; rw [if_pos hl] at h2; exact .inl ⟨h2, h1, hl⟩
  · rename_i hl; rw [if_neg hl] at h2; exact .inr ⟨h2, h1⟩
theorem rgAll_next {α : Type} {f g op : Int → Int → Int} (h : IsOp f g op) {A B C : Int} (hA : 0 ≤ A) (hB : 0 ≤ B) (hC : 0 ≤ C) (back next : Option α) :
    rgAll N0 f g A B C true true true back next = next := by
  have e1 : f B A = f A B := by rw [h.val, h.val, h.comm]
  have e2 : g B A = g A B := by rw [h.err, h.err, h.comm]
  have tail : rgTail N0 f g A B C true true true back next = next := by
    unfold rgTail
    rw [iq0, iq0]
    simp only [Bool.and_true, cond_true]
    by_cases hs : rgS N0 f g A B C = 0
    · rw [decide_eq_true hs]
      simp only [cond_true]
      unfold rgS at hs
      have k1 := err_cases h A B
      have k2 := err_cases h (N0.q4 (f A B)) C
      have k3 := err_cases h B C
      have k4 := err_cases h A (N0.q4 (f B C))
      have r1 : 0 ≤ g A B ∧ g A B ≤ 3 := by rcases k1 with k | k <;> omega
      have r2 : 0 ≤ g (N0.q4 (f A B)) C ∧ g (N0.q4 (f A B)) C ≤ 3 := by rcases k2 with k | k <;> omega
      have r3 : 0 ≤ g B C ∧ g B C ≤ 3 := by rcases k3 with k | k <;> omega
      have r4 : 0 ≤ g A (N0.q4 (f B C)) ∧ g A (N0.q4 (f B C)) ≤ 3 := by rcases k4 with k | k <;> omega
      rw [wr64 (x := g A B + g (N0.q4 (f A B)) C) (by omega) (by omega), wr64 (x := g A B + g (N0.q4 (f A B)) C + g B C) (by omega) (by omega), wr64 (by omega) (by omega)] at hs
      obtain ⟨z1, v1, l1⟩ := k1.resolve_right (by omega)
      obtain ⟨z3, v3, l3⟩ := k3.resolve_right (by omega)
      have n1 := h.nonneg A B hA hB
      have n3 := h.nonneg B C hB hC
      rw [v1, q40 ⟨n1, l1⟩] at k2 hs
      rw [v3, q40 ⟨n3, l3⟩] at k4 hs
      obtain ⟨z2, v2, l2⟩ := k2.resolve_right (by omega)
      obtain ⟨z4, v4, l4⟩ := k4.resolve_right (by omega)
      rw [v1, q40 ⟨n1, l1⟩, v3, q40 ⟨n3, l3⟩, v2, v4, h.assoc, eqN_self]; rfl
    · rw [decide_eq_false hs]; rfl
  unfold rgAll
  rw [e1, e2, eqN_self, decide_eq_true rfl, tail]
  rcases err_cases h A B with ⟨z, _⟩ | ⟨z, _⟩ <;> rw [z] <;> rfl
end Go.Proofs.YthpdeiolhahobaaDoor

/- Chapter 2: the law NatChooses: its loop, and its formula. -/
namespace Go.Proofs.YthpdeiolhahobaaDoor
open Go Go.Eng
structure NC where
  n : NV
  ch : Int → Int → Int
  che : Int → Int
def gChV (C : NC) : List V → Option (Bool × V)
  | [.int .i64 n, .int .i64 k] => some (true, .tuple [C.n.nW (C.ch n k), .int .i64 (C.che n)])
  | _ => none
def tabC (C : NC) : PTab := addTab 16 (gChV C) (tabV C.n)
noncomputable abbrev orcC (C : NC) : Oracle := inl Tryd.prog ftab (tabC C) plainL 200 never hDomM (hOrc (hTabV C.n)) 20
noncomputable def csLp : Code := loopOf 16 Tryd.f8
def csT : Tm := ⟨mkS [(5, .int .i64), (16, .ptr 0 0), (17, .int .i64)] 0 120, [.own 28 n4], []⟩
def csX : Tm := ⟨mkS [(5, .int .i64), (16, .ptr 0 0)] 0 120, [.own 28 n4], []⟩
theorem cs_round (C : NC) (rd : Option Nat) (m i a b c d : Int) : roundT Tryd.prog (orcC C) noLoops 200 0 rd 8 csLp csT csX [.i m, .i i, .i a, .i b, .i c, .i d] =
    bif decide (i ≤ m) then bif C.n.inn a b c d && C.n.iq (C.ch m i) then bif !decide (wr .i64 (C.che m + C.n.addE (C.n.z a b c d) (C.n.q4 (C.ch m i))) = 0) then some (.ret, [.i m, .i a, .i b, .i c, .i d], []) else
      some (.normal, [.i m, .i (wr .i64 (i + 1)), .i (C.n.w0 (C.n.add (C.n.z a b c d) (C.n.q4 (C.ch m i)))), .i (C.n.w1 (C.n.add (C.n.z a b c d) (C.n.q4 (C.ch m i)))), .i (C.n.w2 (C.n.add (C.n.z a b c d) (C.n.q4 (C.ch m i)))), .i (C.n.w3 (C.n.add (C.n.z a b c d) (C.n.q4 (C.ch m i))))], [])
    else none else some (.exit 0, [.i m, .i a, .i b, .i c, .i d], []) := by kernel_rfl
/-- The end's cases, one for each number of things. -/
def csTr (m : Int) : Nat → Fin
  | 0 => .no
  | k + 1 => .br (decide (m = (k : Int))) (.leaf (.exit 0) (csX.at [.i (k : Int), .i (w0 ((2 ^ k : Nat) : Int)), .i (w1 ((2 ^ k : Nat) : Int)), .i (w2 ((2 ^ k : Nat) : Int)), .i (w3 ((2 ^ k : Nat) : Int))])) (csTr m k)
noncomputable def csTree : List PV → Fin
  | [.i m, .i i, .i a, .i b, .i c, .i d] => .br (pB (0 ≤ m ∧ m < 128 ∧ i = 0 ∧ a = 0 ∧ b = 0 ∧ c = 0 ∧ d = 0)) (csTr m 128) .no
  | _ => .no
noncomputable def csL : Loops := sums (fun n => match n with | 16 => some (lsumF 0 csT csLp csTree) | _ => none)
def csRes (m : Int) : Nat → Option V
  | 0 => none
  | k + 1 => bif decide (m = (k : Int)) then some (.bool true) else csRes m k
noncomputable def csRest (M : Int) : Option V := cond (codesB [(csLp, csLp)]) (bif pB (0 ≤ M ∧ M < 128 ∧ (0 : Int) = 0 ∧ (0 : Int) = 0 ∧ (0 : Int) = 0 ∧ (0 : Int) = 0 ∧ (0 : Int) = 0) then csRes M 128 else none) none
noncomputable def csAll (C : NC) (M k : Int) : Option V :=
  bif C.n.iq (C.ch M k) && C.n.iq (C.ch M (wr .i64 (k - 1))) then
  bif !decide (wr .i64 (wr .i64 (wr .i64 (C.che (wr .i64 (M + 1)) + C.che M) + C.che M) + C.n.addE (C.n.q4 (C.ch M k)) (C.n.q4 (C.ch M (wr .i64 (k - 1))))) = 0) then fls2 else
  bif !C.n.eqN (C.n.add (C.n.q4 (C.ch M k)) (C.n.q4 (C.ch M (wr .i64 (k - 1))))) (C.ch (wr .i64 (M + 1)) k) then fls2 else
  bif decide (0 ≤ k) then bif decide (k ≤ M) then bif !C.n.eqN (C.ch M (wr .i64 (M - k))) (C.ch M k) then fls2 else bif !decide (C.che M = 0) then fls2 else csRest M else csRest M else csRest M
  else none
theorem chooses_eval (C : NC) (a k : Int) : evalFn Tryd.prog (orcC C) csL 200 8 Tryd.f8 [.int .u8 a, .int .i64 k] [] (fun v _ => some v) = csAll C ((wr .i64 a).tmod 128) k := by kernel_rfl
end Go.Proofs.YthpdeiolhahobaaDoor
