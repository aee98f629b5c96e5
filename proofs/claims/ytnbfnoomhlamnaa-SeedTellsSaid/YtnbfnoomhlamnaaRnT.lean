/- Texts merged: RnT, RnR. -/
import Derived.Test.YtnbfnoomhlamnaaRf3
/- Chapter 3: the reference's BelowNat: contracts as names. -/
namespace Go.Proofs.Ytnbfnoomhlamnaa
open Go Go.Eng
structure RN where
  B : NB
  ofz : Int → Int
  ofe : Int → Int
  fit : Int → Bool
  ns : Int → Int
  nv : Int → Int
  ne : Int → Int
  /-- The loop's state and answer: k, state, number, limit. -/
  ls : Nat → Int → Int → Int → Int
  lv : Nat → Int → Int → Int → Int
/-- The state and what is drawn after at most so many draws. -/
def natQ (k : Nat) (z m : Int) : Nat → Int → Int → Int × Int
  | 0, s, r => (s, r)
  | u + 1, s, _ => bif decide (N2.divZ (drawN k s 0 1).2 z < m) then ((drawN k s 0 1).1, N2.remZ (drawN k s 0 1).2 z) else natQ k z m u (drawN k s 0 1).1 (N2.remZ (drawN k s 0 1).2 z)
def rN : RN := ⟨nB, N2.ofZ, N2.ofE, fitI, nextS, nextV, fun s => errI (rightB s), fun k s z m => (natQ k z m 101 s 0).1, fun k s z m => (natQ k z m 101 s 0).2⟩
def gNextR (Q : RN) : List V → Option (Bool × V)
  | [.int .i64 s] => some (true, .tuple [.int .i64 (Q.ns s), .int .i64 (Q.nv s), .int .i64 (Q.ne s)])
  | _ => none
def gOfR (Q : RN) : List V → Option (Bool × V)
  | [.int .i64 n] => some (Q.fit n, .tuple [Q.B.nW (Q.ofz n), .int .i64 (Q.ofe n)])
  | _ => none
def tabRn (Q : RN) : PTab := addTab 38 (gNextR Q) (addTab 42 gRight (addTab 57 (gTwoB Q.B fun x y => .int .i64 (Q.B.cmp x y)) (addTab 58 (gOfR Q)
  (addTab 60 (gTwoB Q.B fun x y => .tuple [Q.B.nW (Q.B.quo x y), Q.B.nW (Q.B.rem x y), .int .i64 (Q.B.divE y)]) (addTab 61 (gTwoB Q.B fun x y => .tuple [Q.B.nW (Q.B.add x y), .int .i64 (Q.B.addE x y)]) emptyTab)))))
def hTabRn (N : NB) : HTab := addH 59 (gMulB N) emptyH
def dom59 : FuncId → Bool := fun f => Nat.beq f 59
noncomputable abbrev orcRn (Q : RN) : Oracle := inl Try.prog ftab (tabRn Q) plainL 200 never dom59 (hOrc (hTabRn Q.B)) 20
theorem pt_add (x y : Int) : N2.ptZ (x + y) = N2.addZ x y ∧ N2.ptE (x + y) = N2.addE x y := ⟨rfl, rfl⟩
theorem tabRn_ok : PTabOk Try.prog (tabRn rN) := by
  refine addTab_ok ?_ (addTab_ok gR42_ok (addTab_ok (gTwoB_ok ?_) (addTab_ok ?_ (addTab_ok (gTwoB_ok ?_) (addTab_ok (gTwoB_ok ?_) emptyTab_ok)))))
  · intro args c v h _
    unfold gNextR at h
    split at h
    · cases h; exact rnext_pure _
    · cases h
  · exact fun _ _ _ _ _ _ _ _ hx hy => N2.rcmp_p hx hy
  · intro args c v h hc
    unfold gOfR at h
    split at h
    · cases h
      have hc' : fitI _ = true := hc
      simp only [fitI, Bool.and_eq_true, decide_eq_true_eq] at hc'
      exact N2.rof_p hc'
    · cases h
  · exact fun _ _ _ _ _ _ _ _ hx hy => N2.rdiv_p hx hy
  · exact fun _ _ _ _ _ _ _ _ hx hy => N2.radd_p hx hy
theorem hTabRn_ok : HTabOk Try.prog (hTabRn nB) := by
  refine addH_ok ?_ emptyH_ok
  intro args h c v nb hq hc
  unfold gMulB at hq
  split at hq
  · cases hq
    simp only [Bool.and_eq_true] at hc
    exact ⟨.of Try.func59 (by kernel_rfl), N2.rmul_fn hc.1 hc.2⟩
  · cases hq
theorem orcRn_ok : OracleOk Try.prog (orcRn rN) := inl_ok (hOrc_ok hTabRn_ok) ftab_ok tabRn_ok plainL_ok mixed 20
noncomputable def rnLp : Code := loopOf 11 Try.f41
/-- The state in round: k values a draw; the blocks: the number, the answer, the base, all, the slices of the products, the limit, a remainder, what is drawn. -/
def rnT (k : Nat) : Tm := ⟨mkS [(0, .int .i64), (3, .ptr 0 0), (5, .ptr 1 0), (7, .ptr 2 0), (9, .lit .i64 k), (11, .ptr (3 + k) 0), (14, .ptr (5 + k) 0), (15, .int .i64)] 0 126,
  [.own 41 i4, .own 41 z4, .own 41 i4, .dead] ++ deads (k - 1) ++ [.own 41 i4, .dead, .own 41 i4], []⟩
def rnX (k : Nat) : Tm := ⟨mkS [(0, .int .i64), (5, .ptr 1 0), (14, .ptr (5 + k) 0)] 0 126,
  [.own 41 i4, .own 41 z4, .own 41 i4, .dead] ++ deads (k - 1) ++ [.own 41 i4, .dead, .own 41 i4], []⟩
end Go.Proofs.Ytnbfnoomhlamnaa

/- Chapter 3: the reference's BelowNat: one round of the loop in which it draws. -/
namespace Go.Proofs.Ytnbfnoomhlamnaa
open Go Go.Eng
/-- So many values: the state after them, and they from the last one on. -/
def rnV (Q : RN) : Nat → Int → List Int → Int × List Int
  | 0, s, l => (s, l)
  | k + 1, s, l => rnV Q k (Q.ns s) (Q.nv s :: l)
def rnSum {R : Type} (Q : RN) (b0 b1 b2 b3 : Int) : List Int → Int → Int → Int → Int → (Int → Int → Int → Int → Option R) → Option R
  | [], a0, a1, a2, a3, K => K a0 a1 a2 a3
  | v :: l, a0, a1, a2, a3, K => bif Q.fit v then bif Q.B.inn a0 a1 a2 a3 && Q.B.inn b0 b1 b2 b3 then
      Q.B.ws (Q.B.mul (Q.B.z a0 a1 a2 a3) (Q.B.z b0 b1 b2 b3)) fun p0 p1 p2 p3 => Q.B.ws (Q.ofz v) fun x0 x1 x2 x3 => bif Q.B.inn p0 p1 p2 p3 && Q.B.inn x0 x1 x2 x3 then
        Q.B.ws (Q.B.add (Q.B.z p0 p1 p2 p3) (Q.B.z x0 x1 x2 x3)) fun y0 y1 y2 y3 => rnSum Q b0 b1 b2 b3 l y0 y1 y2 y3 K else none else none else none
def rnE (Q : RN) (k : Nat) (s i n0 n1 n2 n3 b0 b1 b2 b3 m0 m1 m2 m3 r0 r1 r2 r3 : Int) : RTb :=
  bif decide (i < 101) then rnSum Q b0 b1 b2 b3 (rnV Q k s []).2 0 0 0 0 fun a0 a1 a2 a3 => bif Q.B.inn a0 a1 a2 a3 && Q.B.inn n0 n1 n2 n3 then
      Q.B.ws (Q.B.quo (Q.B.z a0 a1 a2 a3) (Q.B.z n0 n1 n2 n3)) fun q0 q1 q2 q3 => bif Q.B.inn q0 q1 q2 q3 && Q.B.inn m0 m1 m2 m3 then Q.B.ws (Q.B.rem (Q.B.z a0 a1 a2 a3) (Q.B.z n0 n1 n2 n3)) fun t0 t1 t2 t3 =>
        bif decide (Q.B.cmp (Q.B.z q0 q1 q2 q3) (Q.B.z m0 m1 m2 m3) < 0) then some (.exit 2, [.i (rnV Q k s []).1, .i n0, .i n1, .i n2, .i n3, .i b0, .i b1, .i b2, .i b3, .i m0, .i m1, .i m2, .i m3, .i t0, .i t1, .i t2, .i t3], [])
        else some (.normal, [.i (rnV Q k s []).1, .i (wr .i64 (i + 1)), .i n0, .i n1, .i n2, .i n3, .i b0, .i b1, .i b2, .i b3, .i m0, .i m1, .i m2, .i m3, .i t0, .i t1, .i t2, .i t3], []) else none else none
  else some (.exit 2, [.i s, .i n0, .i n1, .i n2, .i n3, .i b0, .i b1, .i b2, .i b3, .i m0, .i m1, .i m2, .i m3, .i r0, .i r1, .i r2, .i r3], [])
theorem rn_round (Q : RN) (rd : Option Nat) (s i n0 n1 n2 n3 b0 b1 b2 b3 m0 m1 m2 m3 r0 r1 r2 r3 : Int) : ∀ k : Nat, 1 ≤ k ∧ k ≤ 4 →
    roundT Try.prog (orcRn Q) noLoops 100 0 rd 41 rnLp (rnT k) (rnX k) [.i s, .i i, .i n0, .i n1, .i n2, .i n3, .i b0, .i b1, .i b2, .i b3, .i m0, .i m1, .i m2, .i m3, .i r0, .i r1, .i r2, .i r3] =
      rnE Q k s i n0 n1 n2 n3 b0 b1 b2 b3 m0 m1 m2 m3 r0 r1 r2 r3
  | 0, h => by omega
  | 1, _ => by kernel_rfl
  | 2, _ => by kernel_rfl
  | 3, _ => by kernel_rfl
  | 4, _ => by kernel_rfl
  | _ + 5, h => by omega
end Go.Proofs.Ytnbfnoomhlamnaa
