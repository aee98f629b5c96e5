/- Texts merged: BaT, BaL, Dm8. -/
import Derived.Test.YtpalajfcffdhoaaTuq
import Derived.Test.YtpalajfcffdhoaaIndP
/- Chapter 6: the law DealBack: its loop, run whole. -/
namespace Go.Proofs.Ytpalajfcffdhoaa
open Go Go.Eng Go.Deal
noncomputable def baLp : Code := loopOf 16 Try.f6
def baBk (nn : Bool) : List TB := [.rs nn 1 (.ints .u8), .own 30 n4, .own 30 n4, .own 25 u64s, .own 30 n4, .own 25 u64s, .own 25 u64s]
def baT (nn : Bool) : Tm := ⟨mkS [(6, .ptr 1 0), (7, .ptr 2 0), (10, .ptr 3 0), (11, .ptr 4 0), (15, .ptr 5 0), (17, .ptr 6 0), (21, .int .i64), (22, .int .i64)] 0 180, baBk nn, []⟩
def baX (nn : Bool) : Tm := ⟨mkS [(6, .ptr 1 0), (7, .ptr 2 0), (10, .ptr 3 0), (11, .ptr 4 0), (15, .ptr 5 0), (17, .ptr 6 0), (21, .int .i64)] 0 180, baBk nn, []⟩
def baPs (ls : List Int) (a b P W X Y : DQ) : List PV := [.l ls, .i a.a, .i a.b, .i a.c, .i a.d, .i b.a, .i b.b, .i b.c, .i b.d, .i P.a, .i P.b, .i P.c, .i P.d, .i W.a, .i W.b, .i W.c, .i W.d, .i X.a, .i X.b, .i X.c, .i X.d, .i Y.a, .i Y.b, .i Y.c, .i Y.d]
def bsS (ls : List Int) (a b P W X Y : DQ) (p x y o : Int) (K : Int → RT) : RT := bif !decide (anI p x = 0) then some (.ret, .i o :: baPs ls a b P W X Y, []) else bif !decide (x = y) then bif decide (x < y) then K (-1) else K 1 else K o
theorem ba_r3 (nn : Bool) (rd : Option Nat) (ls : List Int) (a b P W X Y : DQ) (o : Int) : roundT Try.prog orcZ7 noLoops 100 1 rd 6 baLp (baT nn) (baX nn) (.i o :: .i 3 :: baPs ls a b P W X Y) =
    bif !decide (anI P.d X.d = 0) then some (.ret, .i o :: baPs ls a b P W X Y, []) else some (.normal, .i o :: .i 2 :: baPs ls a b P W X Y, []) := by cases nn <;> kernel_rfl
theorem ba_r2 (nn : Bool) (rd : Option Nat) (ls : List Int) (a b P W X Y : DQ) (o : Int) : roundT Try.prog orcZ7 noLoops 100 1 rd 6 baLp (baT nn) (baX nn) (.i o :: .i 2 :: baPs ls a b P W X Y) =
    bsS ls a b P W X Y P.c X.c Y.c o fun o => some (.normal, .i o :: .i 1 :: baPs ls a b P W X Y, []) := by cases nn <;> kernel_rfl
theorem ba_r1 (nn : Bool) (rd : Option Nat) (ls : List Int) (a b P W X Y : DQ) (o : Int) : roundT Try.prog orcZ7 noLoops 100 1 rd 6 baLp (baT nn) (baX nn) (.i o :: .i 1 :: baPs ls a b P W X Y) =
    bsS ls a b P W X Y P.b X.b Y.b o fun o => some (.normal, .i o :: .i 0 :: baPs ls a b P W X Y, []) := by cases nn <;> kernel_rfl
theorem ba_r0 (nn : Bool) (rd : Option Nat) (ls : List Int) (a b P W X Y : DQ) (o : Int) : roundT Try.prog orcZ7 noLoops 100 1 rd 6 baLp (baT nn) (baX nn) (.i o :: .i 0 :: baPs ls a b P W X Y) =
    bsS ls a b P W X Y P.a X.a Y.a o fun o => some (.normal, .i o :: .i (-1) :: baPs ls a b P W X Y, []) := by cases nn <;> kernel_rfl
theorem ba_rm (nn : Bool) (rd : Option Nat) (ls : List Int) (a b P W X Y : DQ) (o : Int) : roundT Try.prog orcZ7 noLoops 100 1 rd 6 baLp (baT nn) (baX nn) (.i o :: .i (-1) :: baPs ls a b P W X Y) =
    some (.exit 0, .i o :: baPs ls a b P W X Y, []) := by cases nn <;> kernel_rfl
end Go.Proofs.Ytpalajfcffdhoaa

/- Chapter 6: the law DealBack: its formula. -/
namespace Go.Proofs.Ytpalajfcffdhoaa
open Go Go.Eng Go.Deal
section
variable (D : D7) (Cb : DQ → DQ → DQ → Int → Int → Bool) (OR : DQ → DQ → DQ → Int)
def D7.C (q : DQ) (n : Int) : DQ := ⟨D.c0 q.a q.b q.c q.d n, D.c1 q.a q.b q.c q.d n, D.c2 q.a q.b q.c q.d n, D.c3 q.a q.b q.c q.d n⟩
def D7.Ce (q : DQ) (n : Int) : Int := D.ce q.a q.b q.c q.d n
def D7.Ix (q r : DQ) : Int := D.ix q.a q.b q.c q.d r.a r.b r.c r.d
def D7.Ie (q r : DQ) : Int := D.ie q.a q.b q.c q.d r.a r.b r.c r.d
def D7.Rg (q : DQ) : Bool := D.rg q.a q.b q.c q.d
def D7.M (ls : List Int) : DQ := ⟨D.m0 ls, D.m1 ls, D.m2 ls, D.m3 ls⟩
def baE (P : DQ) (W A B : Int) (o : Int) : Option V := bif D.U P && D.n.i W then bif D.n.i A && D.n.i B then bif decide (o = D.n.cmp (D.n.q A) (D.n.q B)) then
  bif eqQ (D.C P (D.n.q W)) ⟨0, 0, 0, 0⟩ then bif decide (D.Ce P (D.n.q W) = 6) then truV else flsV else flsV else flsV else none else none
noncomputable def ba2 (P X Y : DQ) (W A B : Int) : Option V := bif D.U P && D.U X then bif !decide (D.n.divE (D.n.q W) = 0) then flsV else bif !decide (D.n.divE (D.n.q W) = 0) then flsV else bif !decide (D.Ce P (D.n.q A) = 0) then flsV else
  bif !decide (D.Ce P (D.n.q B) = 0) then flsV else bif !decide (D.Ie P X = 0) then flsV else bif !eqW D (D.Ix P X) A then flsV else bif D.U X then bif !D.Rg X then flsV else cond (codesB [(baLp, baLp)]) (bif Cb P X Y 0 3 then baE D P W A B (OR P X Y) else none) none else none else none
noncomputable def ba1 (P M : DQ) (W N : Int) (a b c d e f g h : Int) : Option V := bif !decide (D.Le P = 0) then flsV else bif !decide (D.Ie P M = 0) then flsV else bif !decide (D.Ce P (D.n.q N) = 0) then flsV else bif !eqQ (D.C P (D.n.q N)) M then flsV else
  bif D.n.i N && D.n.i W then bif decide (0 ≤ D.n.cmp (D.n.q N) (D.n.q W)) then flsV else
  bif D.n.inn a b c d && D.n.i W then bif D.n.inn e f g h && D.n.i W then bif D.U P && D.n.i (D.n.rem (D.n.z a b c d) (D.n.q W)) then bif D.U P && D.n.i (D.n.rem (D.n.z e f g h) (D.n.q W)) then
    ba2 D Cb OR P (D.C P (D.n.q (D.n.rem (D.n.z a b c d) (D.n.q W)))) (D.C P (D.n.q (D.n.rem (D.n.z e f g h) (D.n.q W)))) W (D.n.rem (D.n.z a b c d) (D.n.q W)) (D.n.rem (D.n.z e f g h) (D.n.q W))
  else none else none else none else none else none
noncomputable def baTr (nn : Bool) : List PV → Fin
  | .i o :: .i s :: .l ls :: .i a0 :: .i a1 :: .i a2 :: .i a3 :: .i b0 :: .i b1 :: .i b2 :: .i b3 :: .i p0 :: .i p1 :: .i p2 :: .i p3 :: .i w0 :: .i w1 :: .i w2 :: .i w3 :: .i x0 :: .i x1 :: .i x2 :: .i x3 :: r => match r with
    | [.i y0, .i y1, .i y2, .i y3] => .br (Cb ⟨p0, p1, p2, p3⟩ ⟨x0, x1, x2, x3⟩ ⟨y0, y1, y2, y3⟩ o s)
      (.leaf (.exit 0) ((baX nn).at (.i (OR ⟨p0, p1, p2, p3⟩ ⟨x0, x1, x2, x3⟩ ⟨y0, y1, y2, y3⟩) :: baPs ls ⟨a0, a1, a2, a3⟩ ⟨b0, b1, b2, b3⟩ ⟨p0, p1, p2, p3⟩ ⟨w0, w1, w2, w3⟩ ⟨x0, x1, x2, x3⟩ ⟨y0, y1, y2, y3⟩))) .no
    | _ => .no
  | _ => .no
noncomputable def baLL (nn : Bool) : Loops := sums (fun n => match n with | 16 => some (lsumF 1 (baT nn) baLp (baTr Cb OR nn)) | _ => none)
theorem back_eval (nn : Bool) (ls : List Int) (w a b c d e f g h : Int) : evalFn Try.prog (orc7 D) (baLL Cb OR nn) 100 6 Try.f6 [.gs 0, .int .u64 w, .agg [.int .u32 a, .int .u32 b, .int .u32 c, .int .u32 d], .agg [.int .u32 e, .int .u32 f, .int .u32 g, .int .u32 h]] [.rs nn 1 (.ints .u8 ls)] (fun v _ => some v) =
    bif D.ok ls then bif D.ok ls then bif D.U (D.P ls w) then bif D.U (D.P ls w) && D.U (D.M ls) then bif D.U (D.P ls w) && D.n.i (D.Ix (D.P ls w) (D.M ls)) then
      ba1 D Cb OR (D.P ls w) (D.M ls) (D.Wy (D.P ls w)) (D.Ix (D.P ls w) (D.M ls)) a b c d e f g h else none else none else none else none else none := by cases nn <;> kernel_rfl
end
end Go.Proofs.Ytpalajfcffdhoaa

/- Chapter 6, plainly: Complete and Index are the opposite of one another; their order. -/
namespace Go.Proofs.Ytpalajfcffdhoaa
open Go Go.Eng Go.Deal
theorem or_add_dis : ∀ (n a g : Nat), a < 2 ^ n → Dis a g → a ||| g = a + g
  | 0, a, g, ha, _ => by
    have : a = 0 := by simpa using ha
    subst this; simp
  | n + 1, a, g, ha, h => by
    have h2 : Dis (a / 2) (g / 2) := fun i x y => by
      rw [Nat.testBit_div_two] at x y
      exact h (i + 1) x y
    have ih := or_add_dis n (a / 2) (g / 2) (by rw [Nat.pow_succ] at ha; omega) h2
    have e1 : (a ||| g) / 2 = a / 2 ||| g / 2 := Nat.or_div_two
    have e2 : (a ||| g) % 2 = (a % 2 + g % 2) := by
      have h0 := h 0
      rw [Nat.testBit_zero, Nat.testBit_zero, decide_eq_true_eq, decide_eq_true_eq] at h0
      have key : (a ||| g) % 2 = 1 ↔ a % 2 = 1 ∨ g % 2 = 1 := Nat.or_mod_two_eq_one
      have ha2 : a % 2 = 0 ∨ a % 2 = 1 := by omega
      have hg2 : g % 2 = 0 ∨ g % 2 = 1 := by omega
      rcases ha2 with p | p <;> rcases hg2 with q | q
      · have : ¬ (a ||| g) % 2 = 1 := fun h => by rcases key.1 h with h | h <;> omega
        omega
      · have := key.2 (.inr q); omega
      · have := key.2 (.inl p); omega
      · exact (h0 p q).elim
    omega
theorem good_dis {a b c d g0 g1 g2 g3 : Nat} (h : PartD a b c d) (hg : Deal.Good [g0, g1, g2, g3] (lf a b c d)) : Dis a g0 ∧ Dis b g1 ∧ Dis c g2 ∧ Dis d g3 := by
  obtain ⟨s0, _, s1, _, s2, _, s3, _, _⟩ := hg
  exact ⟨(h.lf_dis s0).1, (h.lf_dis (s1.trans (nd_sub _ _))).2.1, (h.lf_dis (s2.trans ((nd_sub _ _).trans (nd_sub _ _)))).2.2.1, (h.lf_dis (s3.trans ((nd_sub _ _).trans ((nd_sub _ _).trans (nd_sub _ _))))).2.2.2⟩
/-- What Complete makes. -/
theorem cp_ok {a b c d n : Nat} (h : PartD a b c d) (hn : n < wy (lks a b c d)) : ∃ g0 g1 g2 g3 : Nat, comp (lks a b c d) (lf a b c d) n = [g0, g1, g2, g3] ∧ Deal.Good [g0, g1, g2, g3] (lf a b c d) ∧ cs [g0, g1, g2, g3] = lks a b c d ∧
    idx [g0, g1, g2, g3] (lf a b c d) = n ∧ cpG a b c d n = (a ||| g0, b ||| g1, c ||| g2, d ||| g3) := by
  obtain ⟨A, B, C⟩ := comp_ok h.lf_cnt hn
  have e : ∃ g0 g1 g2 g3 : Nat, comp (lks a b c d) (lf a b c d) n = [g0, g1, g2, g3] := ⟨_, _, _, _, rfl⟩
  obtain ⟨g0, g1, g2, g3, e⟩ := e
  rw [e] at A B C
  refine ⟨g0, g1, g2, g3, e, A, B, C, ?_⟩
  unfold cpG
  rw [e]
theorem ix_of {a b c d g0 g1 g2 g3 : Nat} (h : PartD a b c d) (hg : Deal.Good [g0, g1, g2, g3] (lf a b c d)) : ixN a b c d (a ||| g0) (b ||| g1) (c ||| g2) (d ||| g3) = idx [g0, g1, g2, g3] (lf a b c d) := by
  obtain ⟨d0, d1, d2, d3⟩ := good_dis h hg
  unfold ixN
  rw [nd_or d0, nd_or d1, nd_or d2, nd_or d3]
theorem ix_ok {a b c d x y z w : Nat} (h : PartD a b c d) (r : RightD x y z w) (ha : Sub a x) (hb : Sub b y) (hc : Sub c z) (hd : Sub d w) :
    ixN a b c d x y z w < wy (lks a b c d) ∧ cpG a b c d (ixN a b c d x y z w) = (x, y, z, w) := by
  obtain ⟨G, C⟩ := RightD.good r ha hb hc hd
  have hl := idx_lt G (by rw [C]; exact h.lf_cnt)
  rw [C] at hl
  refine ⟨hl, ?_⟩
  have e := comp_idx G (by rw [C]; exact h.lf_cnt)
  rw [C] at e
  unfold cpG ixN
  rw [e]
  show (a ||| nd x a, b ||| nd y b, c ||| nd z c, d ||| nd w d) = _
  rw [or_nd ha, or_nd hb, or_nd hc, or_nd hd]
theorem right_last {a b c d d' : Nat} (h : RightD a b c d) (h' : RightD a b c d') : d = d' := by
  have e1 := h.all; have e2 := h'.all
  refine eq_bits h.ld h'.ld fun i hi => ?_
  have t1 : (un a b c d).testBit i = true := by rw [e1, al_bit]; exact decide_eq_true hi
  have t2 : (un a b c d').testBit i = true := by rw [e2, al_bit]; exact decide_eq_true hi
  rw [un_bit] at t1 t2
  have q1 := h.ad i; have q2 := h.bd i; have q3 := h.cd' i
  have r1 := h'.ad i; have r2 := h'.bd i; have r3 := h'.cd' i
  cases ha : a.testBit i <;> cases hb : b.testBit i <;> cases hc : c.testBit i <;> cases hd : d.testBit i <;> cases hd' : d'.testBit i <;> simp_all
/-- The order of two deals, as the law looks for it. -/
def ord3 (x0 x1 x2 y0 y1 y2 : Int) : Int := bif decide (x0 = y0) then bif decide (x1 = y1) then bif decide (x2 = y2) then 0 else bif decide (x2 < y2) then -1 else 1 else bif decide (x1 < y1) then -1 else 1 else bif decide (x0 < y0) then -1 else 1
theorem ord_is {a b c d n m : Nat} (h : PartD a b c d) (hn : n < wy (lks a b c d)) (hm : m < wy (lks a b c d)) {x y z w x' y' z' w' : Nat} (h1 : cpG a b c d n = (x, y, z, w)) (h2 : cpG a b c d m = (x', y', z', w')) :
    ord3 x y z x' y' z' = N2.cmpI (n : Int) (m : Int) := by
  obtain ⟨g0, g1, g2, g3, _, G, C, I, E⟩ := cp_ok h hn
  obtain ⟨k0, k1, k2, k3, _, G', C', I', E'⟩ := cp_ok h hm
  have L := idx_lex G G' (C.trans C'.symm) (by rw [C]; exact h.lf_cnt)
  rw [I, I'] at L
  have R := h.comp G C
  have R' := h.comp G' C'
  rw [E] at h1
  rw [E'] at h2
  simp only [Prod.mk.injEq] at h1 h2
  obtain ⟨rfl, rfl, rfl, rfl⟩ := h1
  obtain ⟨rfl, rfl, rfl, rfl⟩ := h2
  obtain ⟨d0, d1, d2, d3⟩ := good_dis h G
  obtain ⟨f0, f1, f2, f3⟩ := good_dis h G'
  have e0 := or_add_dis 52 a g0 h.la d0; have e1 := or_add_dis 52 b g1 h.lb d1; have e2 := or_add_dis 52 c g2 h.lc d2; have e3 := or_add_dis 52 d g3 h.ld d3
  have e0' := or_add_dis 52 a k0 h.la f0; have e1' := or_add_dis 52 b k1 h.lb f1; have e2' := or_add_dis 52 c k2 h.lc f2; have e3' := or_add_dis 52 d k3 h.ld f3
  have hs : Deal.sgn n m = N2.cmpI (n : Int) (m : Int) := by
    unfold Deal.sgn N2.cmpI
    by_cases q : n < m
    · rw [if_pos q, decide_eq_true (by omega)]; rfl
    · rw [if_neg q, decide_eq_false (by omega)]
      by_cases q' : m < n
      · rw [if_pos q', decide_eq_true (by omega)]; rfl
      · rw [if_neg q', decide_eq_false (by omega)]; rfl
  rw [← hs, ← L]
  unfold ord3
  simp only [lex]
  by_cases q0 : g0 = k0
  · subst q0
    rw [decide_eq_true rfl, cond_true, if_neg (by omega), if_neg (by omega)]
    by_cases q1 : g1 = k1
    · subst q1
      rw [decide_eq_true rfl, cond_true, if_neg (by omega), if_neg (by omega)]
      by_cases q2 : g2 = k2
      · subst q2
        have hl := right_last R R'
        rw [e3, e3'] at hl
        rw [decide_eq_true rfl, cond_true, if_neg (by omega), if_neg (by omega), if_neg (by omega), if_neg (by omega)]
      · rw [decide_eq_false (by omega), cond_false]
        by_cases s : g2 < k2
        · rw [if_pos s, decide_eq_true (by omega)]; rfl
        · rw [if_neg s, if_pos (by omega), decide_eq_false (by omega)]; rfl
    · rw [decide_eq_false (by omega), cond_false]
      by_cases s : g1 < k1
      · rw [if_pos s, decide_eq_true (by omega)]; rfl
      · rw [if_neg s, if_pos (by omega), decide_eq_false (by omega)]; rfl
  · rw [decide_eq_false (by omega), cond_false]
    by_cases s : g0 < k0
    · rw [if_pos s, decide_eq_true (by omega)]; rfl
    · rw [if_neg s, if_pos (by omega), decide_eq_false (by omega)]; rfl
end Go.Proofs.Ytpalajfcffdhoaa
