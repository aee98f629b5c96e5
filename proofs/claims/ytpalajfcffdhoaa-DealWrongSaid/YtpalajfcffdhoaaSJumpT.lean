/- Texts merged: SJumpT, SJump, SNext, SBelowT, SBelow, SNbT, SNbR. -/
import Derived.Test.YtpalajfcffdhoaaSeQ2
import Derived.Test.YtpalajfcffdhoaaEng3
import Derived.Test.YtpalajfcffdhoaaANat8
/- Chapter 3: the states of the loop in which the powers are yielded to Jump. -/
namespace Go.Proofs.Ytpalajfcffdhoaa.N3
open Go Go.Eng

def u : TV := .tuple []
def o : Option TV := none
def jumpC (s k s2 : Int) (b1 b2 : Bool) (s3 k2 r : Int) : List PV := [.i s, .i k, .i s2, .b b1, .b b2, .i s3, .i k2, .i r]
def jumpP (p l a : Int) (c : List PV) : List PV := .i p :: .i l :: .i a :: c
end Go.Proofs.Ytpalajfcffdhoaa.N3

/- Chapter 3: what Jump answers, for all states and numbers of steps. -/
namespace Go.Proofs.Ytpalajfcffdhoaa.N3
open Go Go.Eng

def mulP (a b : Int) : Int := (wr .i64 (a * b)).tmod 2147483647
def jumpR (p l a : Int) : Int := if h : 0 < l then jumpR (mulP p p) (l / 2) (bif decide (l.tmod 2 = 1) then mulP a p else a) else a
termination_by l.toNat
decreasing_by omega

theorem codes2 {a b : Code} : codesOk [(a, a), (b, b)] := by intro x hx; simp at hx; rcases hx with rfl | rfl <;> rfl
theorem wr64 {x : Int} (h1 : -9223372036854775808 ≤ x) (h2 : x < 9223372036854775808) : wr .i64 x = x := by
  simp only [wr, sgn]
  cases h : decide (9223372036854775808 ≤ x % 18446744073709551616) with
  | true => simp only [decide_eq_true_eq] at h; simp only [cond_true]; omega
  | false => simp only [decide_eq_false_iff_not] at h; simp only [cond_false]; omega
theorem tdiv2 {l : Int} (h : 0 ≤ l) : l.tdiv 2 = l / 2 := Int.tdiv_eq_ediv_of_nonneg h

def jumpInv : List PV → Bool
  | [.i _, .i l, .i _, .i _, .i _, .i _, .b _, .b _, .i _, .i _, .i _] => decide (l < 9223372036854775808)
  | _ => false
/-! ### the remainder; the jump -/
def restI (n : Int) : Int := bif decide (n.tmod 2147483646 < 0) then wr .i64 (n.tmod 2147483646 + 2147483646) else n.tmod 2147483646
theorem rest_eval (n : Int) : evalAt tab1 plainL 53 Try.f53 [.int .i64 n] = bif decide (n.tmod 2147483646 < 0) then some (.int .i64 (wr .i64 (n.tmod 2147483646 + 2147483646))) else some (.int .i64 (n.tmod 2147483646)) := by kernel_rfl
theorem rest_pure (n : Int) : FnPure Try.prog 53 [.int .i64 n] (.int .i64 (restI n)) := by
  refine pure_at tab1_ok plainL_ok Try.func53 (by kernel_rfl) ?_ rfl rfl
  rw [rest_eval, restI]
  cases decide (n.tmod 2147483646 < 0) <;> rfl
def gRest : List V → Option (Bool × V)
  | [.int .i64 n] => some (true, .int .i64 (restI n))
  | _ => none
def tab2 : PTab := addTab 53 gRest tab1
theorem tab2_ok : PTabOk Try.prog tab2 := by
  refine addTab_ok ?_ tab1_ok
  intro args c v h _
  unfold gRest at h
  split at h
  · cases h; exact rest_pure _
  · cases h
def jumpI (s k : Int) : Int := bif rightB s then jumpR 48271 (restI k) s else 0
def errI (b : Bool) : Int := bif b then 0 else 2
theorem rest_small (n : Int) : 0 ≤ restI n ∧ restI n < 2147483646 := by
  have h2 := Int.tmod_lt_of_pos n (show (0 : Int) < 2147483646 by omega)
  have h3 : -2147483646 < n.tmod 2147483646 := by
    rcases Int.le_total 0 n with h | h
    · have := Int.tmod_nonneg 2147483646 h; omega
    · have h4 := Int.tmod_lt_of_pos (-n) (show (0 : Int) < 2147483646 by omega)
      rw [Int.neg_tmod] at h4
      omega
  unfold restI
  generalize n.tmod 2147483646 = t at *
  cases h : decide (t < 0) with
  | true =>
    simp only [decide_eq_true_eq] at h
    rw [cond_true, wr64 (by omega) (by omega)]
    omega
  | false =>
    simp only [decide_eq_false_iff_not] at h
    rw [cond_false]
    omega
end Go.Proofs.Ytpalajfcffdhoaa.N3

/- Chapter 3: what Next answers, for all states. -/
namespace Go.Proofs.Ytpalajfcffdhoaa.N3
open Go Go.Eng
def nextS (s : Int) : Int := bif rightB s then mulP s 48271 else 0
def nextV (s : Int) : Int := bif rightB s then wr .i64 (mulP s 48271 - 1) else 0
def gJump : List V → Option (Bool × V)
  | [.int .i64 s, .int .i64 k] => some (true, .tuple [.int .i64 (jumpI s k), .int .i64 (errI (rightB s))])
  | _ => none
def gNext : List V → Option (Bool × V)
  | [.int .i64 s] => some (true, .tuple [.int .i64 (nextS s), .int .i64 (nextV s), .int .i64 (errI (rightB s))])
  | _ => none
end Go.Proofs.Ytpalajfcffdhoaa.N3

/- Chapter 3: the states of the loop in which Below draws. -/
namespace Go.Proofs.Ytpalajfcffdhoaa.N3
open Go Go.Eng
def belowT : Tm := ⟨[some (.func 34 [.ptr 0 0]), some (.func 36 [.ptr 1 0]), o, o, o, some (.int .i64), o, o, some (.int .i64), o, o, o, o, o, o, o, o], [.own 52 (.vs [.int .i64]), .own 3 (.vs [.int .i64])], []⟩
def belowX : Tm := ⟨[o, o, o, o, o, some (.int .i64), o, o, o, o, o, o, o, o, o, o, o], [.own 52 (.vs [.int .i64]), .own 3 (.vs [.int .i64])], []⟩
end Go.Proofs.Ytpalajfcffdhoaa.N3

/- Chapter 3: what Below answers, for all states and bounds. -/
namespace Go.Proofs.Ytpalajfcffdhoaa.N3
open Go Go.Eng

/-- The value and the state after at most so many tries more. -/
def belowR : Nat → Int → Int → Int → Int × Int
  | 0, v, s, _ => (v, s)
  | n + 1, v, s, m => bif decide (v < m) then (v, s) else belowR n (wr .i64 (mulP s 48271 - 1)) (mulP s 48271) m
theorem codes0 : codesOk [] := fun _ h => by cases h
def belowInv : List PV → Bool
  | [.i _, .i i, .i _, .i _] => decide (i = 0)
  | _ => false
def belowFin : List PV → XE × AS
  | [.i v, .i _, .i s, .i m] => (.exit 0, belowX.at [.i (belowR 100 v s m).1, .i (belowR 100 v s m).2, .i m])
  | _ => (.ret, ⟨[], [], []⟩)
def mostI (n : Int) : Int := wr .i64 (2147483646 - (2147483646 : Int).tmod n)
/-- What is drawn: the value below the greatest multiple, and the state. -/
def drawn (s n : Int) : Int × Int := belowR 100 (wr .i64 (mulP s 48271 - 1)) (mulP s 48271) (mostI n)
def belowS (s n : Int) : Int := bif belowB s n then 0 else (drawn s n).2
def belowV (s n : Int) : Int := bif belowB s n then 0 else (drawn s n).1.tmod n
def gBelow : List V → Option (Bool × V)
  | [.int .i64 s, .int .i64 n] => some (true, .tuple [.int .i64 (belowS s n), .int .i64 (belowV s n), .int .i64 (errI (!belowB s n))])
  | _ => none
end Go.Proofs.Ytpalajfcffdhoaa.N3

/- Chapter 3: BelowNat: contracts of nat as names alone; the states of the loop in which it draws. -/
namespace Go.Proofs.Ytpalajfcffdhoaa.N3
open Go Go.Eng
/-- nat's functions, as names alone. -/
structure NB where
  w0 : Int → Int
  w1 : Int → Int
  w2 : Int → Int
  w3 : Int → Int
  z : Int → Int → Int → Int → Int
  inn : Int → Int → Int → Int → Bool
  add : Int → Int → Int
  addE : Int → Int → Int
  sub : Int → Int → Int
  subE : Int → Int → Int
  mul : Int → Int → Int
  mulE : Int → Int → Int
  quo : Int → Int → Int
  rem : Int → Int → Int
  divE : Int → Int
  cmp : Int → Int → Int
  /-- The loop's state and value: k, state, limit, value. -/
  ls : Nat → Int → Int → Int → Int
  lv : Nat → Int → Int → Int → Int
/-- A draw of so many values: the state and the sum. -/
def drawN : Nat → Int → Int → Int → Int × Int
  | 0, s, a, _ => (s, a)
  | k + 1, s, a, c => drawN k (mulP s 48271) (N2.addZ a (N2.mulZ c (mulP s 48271 - 1))) (N2.mulZ c 2147483646)
/-- The state and the value after at most so many draws more. -/
def natR (k : Nat) (m : Int) : Nat → Int → Int → Int × Int
  | 0, s, v => (s, v)
  | n + 1, s, v => bif decide (v < m) then (s, v) else natR k m n (drawN k s 0 1).1 (drawN k s 0 1).2
def nB : NB := ⟨N2.w0, N2.w1, N2.w2, N2.w3, N2.nval, N2.inN, N2.addZ, N2.addE, N2.subZ, N2.subE, N2.mulZ, N2.mulE, N2.divZ, N2.remZ, N2.divE, N2.cmpI, fun k s m v => (natR k m 100 s v).1, fun k s m v => (natR k m 100 s v).2⟩
def NB.nW (N : NB) (x : Int) : V := .agg [.int .u32 (N.w0 x), .int .u32 (N.w1 x), .int .u32 (N.w2 x), .int .u32 (N.w3 x)]
def gTwoB (N : NB) (F : Int → Int → V) : List V → Option (Bool × V)
  | [.agg [.int .u32 a, .int .u32 b, .int .u32 c, .int .u32 d], .agg [.int .u32 e, .int .u32 f, .int .u32 g, .int .u32 h]] => some (N.inn a b c d && N.inn e f g h, F (N.z a b c d) (N.z e f g h))
  | _ => none
def tabB (N : NB) : PTab := addTab 16 (gTwoB N fun x y => .tuple [N.nW (N.add x y), .int .i64 (N.addE x y)]) (addTab 33 (gTwoB N fun x y => .tuple [N.nW (N.sub x y), .int .i64 (N.subE x y)])
  (addTab 22 (gTwoB N fun x y => .tuple [N.nW (N.quo x y), N.nW (N.rem x y), .int .i64 (N.divE y)]) (addTab 21 (gTwoB N fun x y => .int .i64 (N.cmp x y)) emptyTab)))
def gMulB (N : NB) : List V → List Blk → Option (Bool × V × List Blk)
  | [.gs 0], [.rs true 4 (.ints .u32 [a, b, c, d, e, f, g, h])] => some (N.inn a b c d && N.inn e f g h, .tuple [N.nW (N.mul (N.z a b c d) (N.z e f g h)), .int .i64 (N.mulE (N.z a b c d) (N.z e f g h))], [])
  | _, _ => none
def hTabBn (N : NB) : HTab := addH 48 (gMulB N) emptyH
def dom23 : FuncId → Bool := fun f => Nat.beq f 48
noncomputable abbrev orcB (N : NB) (LL : FuncId → Loops) : Oracle := inl Try.prog ftab (tabB N) LL 200 never dom23 (hOrc (hTabBn N)) 20
noncomputable def nbLp : Code := loopOf 3 Try.f56
def i4 : TR := .vs [.int .u32, .int .u32, .int .u32, .int .u32]
def deads : Nat → List TB
  | 0 => []
  | n + 1 => .dead :: deads n
/-- The state in round: k values a draw; the blocks of BelowNat's first: the state, the number, the answer, the base, k, all; the slices of the products; two quotients, the limit. -/
def z4 : TR := .vs [.lit .u32 0, .lit .u32 0, .lit .u32 0, .lit .u32 0]
def nbT (k : Nat) : Tm := ⟨mkS [(0, .func 54 [.ptr 4 0, .ptr 0 0, .ptr 3 0]), (1, .func 57 [.ptr (7 + k) 0]), (4, .ptr (8 + k) 0), (5, .ptr (9 + k) 0), (8, .int .i64)] 0 17,
  [.own 52 (.vs [.int .i64]), .own 30 i4, .own 30 i4, .own 30 i4, .own 3 (.vs [.lit .i64 k]), .dead] ++ deads (k + 1) ++ [.own 30 i4, .own 30 z4, .own 30 i4], []⟩
def nbX (k : Nat) : Tm := ⟨mkS [(4, .ptr (8 + k) 0), (5, .ptr (9 + k) 0)] 0 17,
  [.own 52 (.vs [.int .i64]), .own 30 i4, .own 30 i4, .own 30 i4, .own 3 (.vs [.lit .i64 k]), .dead] ++ deads (k + 1) ++ [.own 30 i4, .own 30 z4, .own 30 i4], []⟩
end Go.Proofs.Ytpalajfcffdhoaa.N3

/- Chapter 3: BelowNat: one round of the loop in which it draws. -/
namespace Go.Proofs.Ytpalajfcffdhoaa.N3
open Go Go.Eng
abbrev RTb := Option (XE × List PV × List (Code × Code))
/-- A draw of so many values: the words of the sum and of the scale. -/
noncomputable def nbD {R : Type} (N : NB) (b0 b1 b2 b3 : Int) : Nat → Int → Int → Int → Int → Int → Int → Int → Int → Int → (Int → Int → Int → Int → Int → Option R) → Option R
  | 0, s, a0, a1, a2, a3, _, _, _, _, K => K s a0 a1 a2 a3
  | k + 1, s, a0, a1, a2, a3, c0, c1, c2, c3, K => bif N.inn c0 c1 c2 c3 && N.inn (wr .u32 (wr .i64 (mulP s 48271 - 1))) 0 0 0 then
      bif N.inn a0 a1 a2 a3 && N.inn (N.w0 (N.mul (N.z c0 c1 c2 c3) (N.z (wr .u32 (wr .i64 (mulP s 48271 - 1))) 0 0 0))) (N.w1 (N.mul (N.z c0 c1 c2 c3) (N.z (wr .u32 (wr .i64 (mulP s 48271 - 1))) 0 0 0))) (N.w2 (N.mul (N.z c0 c1 c2 c3) (N.z (wr .u32 (wr .i64 (mulP s 48271 - 1))) 0 0 0))) (N.w3 (N.mul (N.z c0 c1 c2 c3) (N.z (wr .u32 (wr .i64 (mulP s 48271 - 1))) 0 0 0))) then
      bif N.inn c0 c1 c2 c3 && N.inn b0 b1 b2 b3 then
        (fun A C => nbD N b0 b1 b2 b3 k (mulP s 48271) (N.w0 A) (N.w1 A) (N.w2 A) (N.w3 A) (N.w0 C) (N.w1 C) (N.w2 C) (N.w3 C) K)
          (N.add (N.z a0 a1 a2 a3) (N.z (N.w0 (N.mul (N.z c0 c1 c2 c3) (N.z (wr .u32 (wr .i64 (mulP s 48271 - 1))) 0 0 0))) (N.w1 (N.mul (N.z c0 c1 c2 c3) (N.z (wr .u32 (wr .i64 (mulP s 48271 - 1))) 0 0 0))) (N.w2 (N.mul (N.z c0 c1 c2 c3) (N.z (wr .u32 (wr .i64 (mulP s 48271 - 1))) 0 0 0))) (N.w3 (N.mul (N.z c0 c1 c2 c3) (N.z (wr .u32 (wr .i64 (mulP s 48271 - 1))) 0 0 0)))))
          (N.mul (N.z c0 c1 c2 c3) (N.z b0 b1 b2 b3)) else none else none else none
noncomputable def nbE (N : NB) (k : Nat) (i s n0 n1 n2 n3 r0 r1 r2 r3 b0 b1 b2 b3 m0 m1 m2 m3 v0 v1 v2 v3 : Int) : RTb :=
  bif decide (i < 100) then bif N.inn v0 v1 v2 v3 && N.inn m0 m1 m2 m3 then bif decide (N.cmp (N.z v0 v1 v2 v3) (N.z m0 m1 m2 m3) < 0) then some (.exit 0, [.i s, .i n0, .i n1, .i n2, .i n3, .i r0, .i r1, .i r2, .i r3, .i b0, .i b1, .i b2, .i b3, .i m0, .i m1, .i m2, .i m3, .i v0, .i v1, .i v2, .i v3], []) else
    nbD N b0 b1 b2 b3 k s 0 0 0 0 1 0 0 0 (fun s' a0 a1 a2 a3 => some (.normal, [.i (wr .i64 (i + 1)), .i s', .i n0, .i n1, .i n2, .i n3, .i r0, .i r1, .i r2, .i r3, .i b0, .i b1, .i b2, .i b3, .i m0, .i m1, .i m2, .i m3, .i a0, .i a1, .i a2, .i a3], [])) else none
  else some (.exit 0, [.i s, .i n0, .i n1, .i n2, .i n3, .i r0, .i r1, .i r2, .i r3, .i b0, .i b1, .i b2, .i b3, .i m0, .i m1, .i m2, .i m3, .i v0, .i v1, .i v2, .i v3], [])
theorem nb_round (N : NB) (rd : Option Nat) (i s n0 n1 n2 n3 r0 r1 r2 r3 b0 b1 b2 b3 m0 m1 m2 m3 v0 v1 v2 v3 : Int) : ∀ k : Nat, 1 ≤ k ∧ k ≤ 4 →
    roundT Try.prog (orcB N plainL) noLoops 200 (8 + k) rd 56 nbLp (nbT k) (nbX k) [.i i, .i s, .i n0, .i n1, .i n2, .i n3, .i r0, .i r1, .i r2, .i r3, .i b0, .i b1, .i b2, .i b3, .i m0, .i m1, .i m2, .i m3, .i v0, .i v1, .i v2, .i v3] =
      nbE N k i s n0 n1 n2 n3 r0 r1 r2 r3 b0 b1 b2 b3 m0 m1 m2 m3 v0 v1 v2 v3
  | 0, h => by omega
  | 1, _ => by kernel_rfl
  | 2, _ => by kernel_rfl
  | 3, _ => by kernel_rfl
  | 4, _ => by kernel_rfl
  | _ + 5, h => by omega
end Go.Proofs.Ytpalajfcffdhoaa.N3
