/- Texts merged: NaRMul, NaRDiv, NbT, NbR. -/
import Derived.Test.YtnbfnoomhlamnaaGreatNaRP
import Derived.Test.YtnbfnoomhlamnaaGreatNaNat8
import Derived.Test.YtnbfnoomhlamnaaGreatNext
/- Chapter 2, the reference: Mul of two. -/
namespace Go.Proofs.YtnbfnoomhlamnaaGreat.N2
open Go Go.Eng
theorem rmul_eval (N : NE) (Z E : Int → Int) (ok : List Int → Bool) (vl : List Int → Int) (a b c d e f g h : Int) : evalFn Tryz.prog (orcQ (hTabZ N Z E ok vl)) noLoops 200 49 Tryz.f49 [.gs 0] [.rs true 4 (.ints .u32 [a, b, c, d, e, f, g, h])] keepV =
    bif N.inn a b c d then bif N.n.ok [1] && N.n.ok (N.dg a b c d) then bif N.inn e f g h then bif N.n.ok (N.n.prod [1] (N.dg a b c d)) && N.n.ok (N.dg e f g h) then outN Z E ok vl (N.n.prod (N.n.prod [1] (N.dg a b c d)) (N.dg e f g h)) else none else none else none else none := by kernel_rfl
theorem row_ro {l : List Int} : ∀ (b : Nat) blk, ([.rs true 4 (.ints .u32 l)] : List Blk)[b]? = some blk → blk.mine = false := by
  intro b blk hb
  match b, hb with
  | 0, hb => cases hb; rfl
  | _ + 1, hb => simp at hb
theorem pt_mul (m n : Nat) : ptZ ((m * n : Nat) : Int) = mulZ (m : Int) (n : Int) ∧ ptE ((m * n : Nat) : Int) = mulE (m : Int) (n : Int) := by
  unfold ptZ ptE mulZ mulE
  rw [Int.natCast_mul]
  exact ⟨rfl, rfl⟩
theorem rmul_fn {a b c d e f g h : Int} (hx : inN a b c d = true) (hy : inN e f g h = true) :
    FnOK Tryz.prog 49 [.gs 0] [.rs true 4 (.ints .u32 [a, b, c, d, e, f, g, h])] (.tuple [nW (mulZ (nval a b c d) (nval e f g h)), .int .i64 (mulE (nval a b c d) (nval e f g h))]) [.rs true 4 (.ints .u32 [a, b, c, d, e, f, g, h])] := by
  have key : evalFn Tryz.prog (orcQ (hTabZ E0 ptZ ptE okP val)) noLoops 200 49 Tryz.f49 [.gs 0] [.rs true 4 (.ints .u32 [a, b, c, d, e, f, g, h])] keepV = some (.tuple [nW (mulZ (nval a b c d) (nval e f g h)), .int .i64 (mulE (nval a b c d) (nval e f g h))]) := by
    rw [rmul_eval, show E0.inn = inN from rfl, hx, hy]
    obtain ⟨m, hm, em, lm, km⟩ := dg_nat hx
    obtain ⟨n, hn, en, ln, kn⟩ := dg_nat hy
    have k1 : E0.n.ok [1] = true := by
      have : E0.n.ok (D 1) = true := okD_lt (n := 1) (by omega)
      exact this
    have p1 : E0.n.prod [1] (D m) = D m := by
      rw [show E0.n.prod = prodD from rfl, show ([1] : List Int) = D 1 from rfl, prodD_D, Nat.one_mul]
    have p2 : E0.n.prod (D m) (D n) = D (m * n) := by
      rw [show E0.n.prod = prodD from rfl, prodD_D]
    have hlt : m * n < 10 ^ 78 := Nat.lt_of_le_of_lt (Nat.mul_le_mul (Nat.le_of_lt lm) (Nat.le_of_lt ln)) (by decide)
    rw [em, en, k1, km, kn, p1, km, p2, out_D hlt (by decide), hm, hn, (pt_mul m n).1, (pt_mul m n).2]
    rfl
  obtain ⟨v1, h1, hk, hok⟩ := evalFn_ok (orcQ_ok hTabZ_ok) mixed Tryz.func49 noLoops_ok key
  simp only [keepV, Option.some.injEq] at hk
  subst hk
  exact hok.plain rfl row_ro
end Go.Proofs.YtnbfnoomhlamnaaGreat.N2

/- Chapter 2, the reference: Div and Gcd: the same results as nat's own. -/
namespace Go.Proofs.YtnbfnoomhlamnaaGreat.N2
open Go Go.Eng
theorem rdiv_eval (N : NE) (Z E : Int → Int) (ok : List Int → Bool) (vl : List Int → Int) (a b c d e f g h : Int) : evalFn Tryz.prog (orcQ (hTabZ N Z E ok vl)) noLoops 200 50 Tryz.f50 (nat2 a b c d e f g h) [] (fun v _ => some v) =
    bif N.inn e f g h then bif decide (nI (N.dg e f g h) = 0) then some (.tuple [nW 0, nW 0, .int .i64 2]) else
      bif N.inn a b c d then bif N.inn e f g h then bif N.okQ (N.dg a b c d) (N.dg e f g h) then bif ok (N.quo (N.dg a b c d) (N.dg e f g h)) then bif ok (N.rem (N.dg a b c d) (N.dg e f g h)) then
        some (.tuple [nW (Z (vl (N.quo (N.dg a b c d) (N.dg e f g h)))), nW (Z (vl (N.rem (N.dg a b c d) (N.dg e f g h)))), .int .i64 0]) else none else none else none else none else none else none := by kernel_rfl
theorem okQ_D {m n : Nat} (hm : m < 340282366920938463463374607431768211456) (hn : n < 340282366920938463463374607431768211456) (h1 : 1 ≤ n) : E0.okQ (D m) (D n) = true := by
  have a1 : (D m).length ≤ 39 := D_len_lt (Nat.lt_trans hm (by decide))
  have a2 : (D n).length ≤ 39 := D_len_lt (Nat.lt_trans hn (by decide))
  rw [show E0.okQ = dvC from rfl]
  unfold dvC
  rw [isD_D, isD_D, val_D, decide_eq_true ⟨by omega, by omega, by omega⟩]; rfl
theorem quo_D (m n : Nat) : E0.quo (D m) (D n) = D (m / n) := by
  rw [show E0.quo = quoD from rfl]
  unfold quoD
  rw [val_D, val_D]; rfl
theorem rem_D (m n : Nat) : E0.rem (D m) (D n) = D (m % n) := by
  rw [show E0.rem = remD from rfl]
  unfold remD
  rw [val_D, val_D]; rfl
theorem okP_D {m : Nat} (hm : m < 340282366920938463463374607431768211456) : okP (D m) = true := by
  have a1 : (D m).length ≤ 39 := D_len_lt (Nat.lt_trans hm (by decide))
  unfold okP
  rw [isD_D, decide_eq_true (by omega)]; rfl
theorem ptZ_lt {m : Nat} (hm : m < 340282366920938463463374607431768211456) : ptZ (m : Int) = (m : Int) := by
  unfold ptZ
  rw [decide_eq_true (by omega)]; rfl
theorem nI_zero {m : Nat} : decide (nI (D m) = 0) = decide (m = 0) := by
  rw [nI_eq, Bool.eq_iff_iff, decide_eq_true_eq, decide_eq_true_eq]
  constructor
  · intro h
    have : (D m).length = 0 := by omega
    have := List.eq_nil_of_length_eq_zero this
    have hv := val_D m
    rw [this] at hv
    simp only [val] at hv
    omega
  · rintro rfl; rfl
theorem rdiv_p {a b c d e f g h : Int} (hx : inN a b c d = true) (hy : inN e f g h = true) : FnPure Tryz.prog 50 (nat2 a b c d e f g h) (.tuple [nW (divZ (nval a b c d) (nval e f g h)), nW (remZ (nval a b c d) (nval e f g h)), .int .i64 (divE (nval e f g h))]) := by
  refine fnPure_of_eval (N := 200) (orcQ_ok hTabZ_ok) mixed Tryz.func50 (by kernel_rfl) noLoops_ok ?_ rfl rfl
  rw [rdiv_eval, show E0.inn = inN from rfl, hx, hy]
  obtain ⟨m, hm, em, lm, km⟩ := dg_nat hx
  obtain ⟨n, hn, en, ln, kn⟩ := dg_nat hy
  unfold divZ remZ divE
  rw [em, en, hm, hn, nI_zero]
  by_cases h0 : n = 0
  · subst h0
    rfl
  · have q1 : m / n < 340282366920938463463374607431768211456 := Nat.lt_of_le_of_lt (Nat.div_le_self m n) lm
    have q2 : m % n < 340282366920938463463374607431768211456 := Nat.lt_of_le_of_lt (Nat.mod_le m n) lm
    rw [decide_eq_false h0, decide_eq_false (show ¬ (n : Int) = 0 by omega), okQ_D lm ln (by omega), quo_D, rem_D, okP_D q1, okP_D q2, val_D, val_D, ptZ_lt q1, ptZ_lt q2]
    rfl
/-! ### Gcd -/
end Go.Proofs.YtnbfnoomhlamnaaGreat.N2

/- Chapter 3: BelowNat: contracts of nat as names alone; the states of the loop in which it draws. -/
namespace Go.Proofs.YtnbfnoomhlamnaaGreat
open Go Go.Eng
/-- nat's functions, as names alone. -/
structure NB where
  w0 : Int → Int
  w1 : Int → Int
  w2 : Int → Int
  w3 : Int → Int
  z : Int → Int → Int → Int → Int
  inn : Int → Int → Int → Int → Bool
  add : Int → Int → Int
  addE : Int → Int → Int
  sub : Int → Int → Int
  subE : Int → Int → Int
  mul : Int → Int → Int
  mulE : Int → Int → Int
  quo : Int → Int → Int
  rem : Int → Int → Int
  divE : Int → Int
  cmp : Int → Int → Int
  /-- The loop's state and value: k, state, limit, value. -/
  ls : Nat → Int → Int → Int → Int
  lv : Nat → Int → Int → Int → Int
/-- A draw of so many values: the state and the sum. -/
def drawN : Nat → Int → Int → Int → Int × Int
  | 0, s, a, _ => (s, a)
  | k + 1, s, a, c => drawN k (mulP s 48271) (N2.addZ a (N2.mulZ c (mulP s 48271 - 1))) (N2.mulZ c 2147483646)
/-- The state and the value after at most so many draws more. -/
def natR (k : Nat) (m : Int) : Nat → Int → Int → Int × Int
  | 0, s, v => (s, v)
  | n + 1, s, v => bif decide (v < m) then (s, v) else natR k m n (drawN k s 0 1).1 (drawN k s 0 1).2
def nB : NB := ⟨N2.w0, N2.w1, N2.w2, N2.w3, N2.nval, N2.inN, N2.addZ, N2.addE, N2.subZ, N2.subE, N2.mulZ, N2.mulE, N2.divZ, N2.remZ, N2.divE, N2.cmpI, fun k s m v => (natR k m 100 s v).1, fun k s m v => (natR k m 100 s v).2⟩
def NB.nW (N : NB) (x : Int) : V := .agg [.int .u32 (N.w0 x), .int .u32 (N.w1 x), .int .u32 (N.w2 x), .int .u32 (N.w3 x)]
def gTwoB (N : NB) (F : Int → Int → V) : List V → Option (Bool × V)
  | [.agg [.int .u32 a, .int .u32 b, .int .u32 c, .int .u32 d], .agg [.int .u32 e, .int .u32 f, .int .u32 g, .int .u32 h]] => some (N.inn a b c d && N.inn e f g h, F (N.z a b c d) (N.z e f g h))
  | _ => none
def tabB (N : NB) : PTab := addTab 6 (gTwoB N fun x y => .tuple [N.nW (N.add x y), .int .i64 (N.addE x y)]) (addTab 7 (gTwoB N fun x y => .tuple [N.nW (N.sub x y), .int .i64 (N.subE x y)])
  (addTab 43 (gTwoB N fun x y => .tuple [N.nW (N.quo x y), N.nW (N.rem x y), .int .i64 (N.divE y)]) (addTab 16 (gTwoB N fun x y => .int .i64 (N.cmp x y)) emptyTab)))
def gMulB (N : NB) : List V → List Blk → Option (Bool × V × List Blk)
  | [.gs 0], [.rs true 4 (.ints .u32 [a, b, c, d, e, f, g, h])] => some (N.inn a b c d && N.inn e f g h, .tuple [N.nW (N.mul (N.z a b c d) (N.z e f g h)), .int .i64 (N.mulE (N.z a b c d) (N.z e f g h))], [])
  | _, _ => none
def hTabBn (N : NB) : HTab := addH 4 (gMulB N) emptyH
def dom23 : FuncId → Bool := fun f => Nat.beq f 4
noncomputable abbrev orcB (N : NB) (LL : FuncId → Loops) : Oracle := inl Tryz.prog ftab (tabB N) LL 200 never dom23 (hOrc (hTabBn N)) 20
noncomputable def nbLp : Code := loopOf 3 Tryz.f45
def i4 : TR := .vs [.int .u32, .int .u32, .int .u32, .int .u32]
def deads : Nat → List TB
  | 0 => []
  | n + 1 => .dead :: deads n
/-- The state in round: k values a draw; the blocks of BelowNat's first: the state, the number, the answer, the base, k, all; the slices of the products; two quotients, the limit. -/
def z4 : TR := .vs [.lit .u32 0, .lit .u32 0, .lit .u32 0, .lit .u32 0]
def nbT (k : Nat) : Tm := ⟨mkS [(0, .func 44 [.ptr 4 0, .ptr 0 0, .ptr 3 0]), (1, .func 46 [.ptr (7 + k) 0]), (4, .ptr (8 + k) 0), (5, .ptr (9 + k) 0), (8, .int .i64)] 0 17,
  [.own 30 (.vs [.int .i64]), .own 25 i4, .own 25 i4, .own 25 i4, .own 3 (.vs [.lit .i64 k]), .dead] ++ deads (k + 1) ++ [.own 25 i4, .own 25 z4, .own 25 i4], []⟩
def nbX (k : Nat) : Tm := ⟨mkS [(4, .ptr (8 + k) 0), (5, .ptr (9 + k) 0)] 0 17,
  [.own 30 (.vs [.int .i64]), .own 25 i4, .own 25 i4, .own 25 i4, .own 3 (.vs [.lit .i64 k]), .dead] ++ deads (k + 1) ++ [.own 25 i4, .own 25 z4, .own 25 i4], []⟩
end Go.Proofs.YtnbfnoomhlamnaaGreat

/- Chapter 3: BelowNat: one round of the loop in which it draws. -/
namespace Go.Proofs.YtnbfnoomhlamnaaGreat
open Go Go.Eng
abbrev RTb := Option (XE × List PV × List (Code × Code))
/-- A draw of so many values: the words of the sum and of the scale. -/
noncomputable def nbD {R : Type} (N : NB) (b0 b1 b2 b3 : Int) : Nat → Int → Int → Int → Int → Int → Int → Int → Int → Int → (Int → Int → Int → Int → Int → Option R) → Option R
  | 0, s, a0, a1, a2, a3, _, _, _, _, K => K s a0 a1 a2 a3
  | k + 1, s, a0, a1, a2, a3, c0, c1, c2, c3, K => bif N.inn c0 c1 c2 c3 && N.inn (wr .u32 (wr .i64 (mulP s 48271 - 1))) 0 0 0 then
      bif N.inn a0 a1 a2 a3 && N.inn (N.w0 (N.mul (N.z c0 c1 c2 c3) (N.z (wr .u32 (wr .i64 (mulP s 48271 - 1))) 0 0 0))) (N.w1 (N.mul (N.z c0 c1 c2 c3) (N.z (wr .u32 (wr .i64 (mulP s 48271 - 1))) 0 0 0))) (N.w2 (N.mul (N.z c0 c1 c2 c3) (N.z (wr .u32 (wr .i64 (mulP s 48271 - 1))) 0 0 0))) (N.w3 (N.mul (N.z c0 c1 c2 c3) (N.z (wr .u32 (wr .i64 (mulP s 48271 - 1))) 0 0 0))) then
      bif N.inn c0 c1 c2 c3 && N.inn b0 b1 b2 b3 then
        (fun A C => nbD N b0 b1 b2 b3 k (mulP s 48271) (N.w0 A) (N.w1 A) (N.w2 A) (N.w3 A) (N.w0 C) (N.w1 C) (N.w2 C) (N.w3 C) K)
          (N.add (N.z a0 a1 a2 a3) (N.z (N.w0 (N.mul (N.z c0 c1 c2 c3) (N.z (wr .u32 (wr .i64 (mulP s 48271 - 1))) 0 0 0))) (N.w1 (N.mul (N.z c0 c1 c2 c3) (N.z (wr .u32 (wr .i64 (mulP s 48271 - 1))) 0 0 0))) (N.w2 (N.mul (N.z c0 c1 c2 c3) (N.z (wr .u32 (wr .i64 (mulP s 48271 - 1))) 0 0 0))) (N.w3 (N.mul (N.z c0 c1 c2 c3) (N.z (wr .u32 (wr .i64 (mulP s 48271 - 1))) 0 0 0)))))
          (N.mul (N.z c0 c1 c2 c3) (N.z b0 b1 b2 b3)) else none else none else none
noncomputable def nbE (N : NB) (k : Nat) (i s n0 n1 n2 n3 r0 r1 r2 r3 b0 b1 b2 b3 m0 m1 m2 m3 v0 v1 v2 v3 : Int) : RTb :=
  bif decide (i < 100) then bif N.inn v0 v1 v2 v3 && N.inn m0 m1 m2 m3 then bif decide (N.cmp (N.z v0 v1 v2 v3) (N.z m0 m1 m2 m3) < 0) then some (.exit 0, [.i s, .i n0, .i n1, .i n2, .i n3, .i r0, .i r1, .i r2, .i r3, .i b0, .i b1, .i b2, .i b3, .i m0, .i m1, .i m2, .i m3, .i v0, .i v1, .i v2, .i v3], []) else
    nbD N b0 b1 b2 b3 k s 0 0 0 0 1 0 0 0 (fun s' a0 a1 a2 a3 => some (.normal, [.i (wr .i64 (i + 1)), .i s', .i n0, .i n1, .i n2, .i n3, .i r0, .i r1, .i r2, .i r3, .i b0, .i b1, .i b2, .i b3, .i m0, .i m1, .i m2, .i m3, .i a0, .i a1, .i a2, .i a3], [])) else none
  else some (.exit 0, [.i s, .i n0, .i n1, .i n2, .i n3, .i r0, .i r1, .i r2, .i r3, .i b0, .i b1, .i b2, .i b3, .i m0, .i m1, .i m2, .i m3, .i v0, .i v1, .i v2, .i v3], [])
theorem nb_round (N : NB) (rd : Option Nat) (i s n0 n1 n2 n3 r0 r1 r2 r3 b0 b1 b2 b3 m0 m1 m2 m3 v0 v1 v2 v3 : Int) : ∀ k : Nat, 1 ≤ k ∧ k ≤ 4 →
    roundT Tryz.prog (orcB N plainL) noLoops 200 (8 + k) rd 45 nbLp (nbT k) (nbX k) [.i i, .i s, .i n0, .i n1, .i n2, .i n3, .i r0, .i r1, .i r2, .i r3, .i b0, .i b1, .i b2, .i b3, .i m0, .i m1, .i m2, .i m3, .i v0, .i v1, .i v2, .i v3] =
      nbE N k i s n0 n1 n2 n3 r0 r1 r2 r3 b0 b1 b2 b3 m0 m1 m2 m3 v0 v1 v2 v3
  | 0, h => by omega
  | 1, _ => by kernel_rfl
  | 2, _ => by kernel_rfl
  | 3, _ => by kernel_rfl
  | 4, _ => by kernel_rfl
  | _ + 5, h => by omega
end Go.Proofs.YtnbfnoomhlamnaaGreat
