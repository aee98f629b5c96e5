/- Texts merged: Z5, Dm8. -/
import Derived.Test.YtpalajfcffdhoaaGreatZ4
import Derived.Test.YtpalajfcffdhoaaGreatCplP
/- Chapter 6, the reference: Complete: its formula and its contract. -/
namespace Go.Proofs.YtpalajfcffdhoaaGreat
open Go Go.Eng Go.Deal
section
variable (E : EC) (C : Int → Int → Int → Int → Int → Int → Int → List Int → Bool) (G : Int → Int → Int → List Int → Int)
noncomputable def coS (s x a b c d z : Int) (iz : Bool) (K : Int → Int → Option V) : Option V :=
  bif E.u4 a b c d then bif E.n.u x then bif E.otk s a b c d then bif iz && E.n.i (E.ot s a b c d) then bif E.n.i (E.n.quo z (E.n.q (E.ot s a b c d))) then
    cond (codesB [(cmLp, cmLp)]) (bif C (wr .i64 (13 - E.ma x)) (E.iz (E.n.q (E.n.quo z (E.n.q (E.ot s a b c d))))) (wr .i64 (Int.ofNat (E.cd a b c d).length - 1)) a b c d (E.cd a b c d) then
      K (G (wr .i64 (13 - E.ma x)) (E.iz (E.n.q (E.n.quo z (E.n.q (E.ot s a b c d))))) x (E.cd a b c d)) (E.n.rem z (E.n.q (E.ot s a b c d))) else none) none else none else none else none else none else none
def zero4R : V := .agg [.int .u64 0, .int .u64 0, .int .u64 0, .int .u64 0]
theorem rcpl_eval (a b c d e f g h : Int) : evalFn Tryz.prog (orcC6 E) (cmL C G) 100 16 Tryz.f16 [q4 a b c d, .agg [.int .u32 e, .int .u32 f, .int .u32 g, .int .u32 h]] [] (fun v _ => some v) =
    bif E.u4 a b c d then bif !decide (E.le a b c d = 0) then some (.tuple [zero4R, .int .i64 (E.le a b c d)]) else
    bif E.n.inn e f g h && E.n.i (E.wy a b c d) then bif decide (0 ≤ E.n.cmp (E.n.z e f g h) (E.n.q (E.wy a b c d))) then some (.tuple [zero4R, .int .i64 6]) else
      coS E C G 0 a a b c d (E.n.z e f g h) (E.n.inn e f g h) fun a r => coS E C G 1 b a b c d (E.n.q r) (E.n.i r) fun b r => coS E C G 2 c a b c d (E.n.q r) (E.n.i r) fun c r => coS E C G 3 d a b c d (E.n.q r) (E.n.i r) fun d _ => some (.tuple [q4 a b c d, .int .i64 0])
    else none else none := by kernel_rfl
end
end Go.Proofs.YtpalajfcffdhoaaGreat

/- Chapter 6, plainly: Complete and Index are the opposite of one another; their order. -/
namespace Go.Proofs.YtpalajfcffdhoaaGreat
open Go Go.Eng Go.Deal
theorem or_add_dis : ∀ (n a g : Nat), a < 2 ^ n → Dis a g → a ||| g = a + g
  | 0, a, g, ha, _ => by
    have : a = 0 := by simpa using ha
    subst this; simp
  | n + 1, a, g, ha, h => by
    have h2 : Dis (a / 2) (g / 2) := fun i x y => by
      rw [Nat.testBit_div_two] at x y
      exact h (i + 1) x y
    have ih := or_add_dis n (a / 2) (g / 2) (by rw [Nat.pow_succ] at ha; omega) h2
    have e1 : (a ||| g) / 2 = a / 2 ||| g / 2 := Nat.or_div_two
    have e2 : (a ||| g) % 2 = (a % 2 + g % 2) := by
      have h0 := h 0
      rw [Nat.testBit_zero, Nat.testBit_zero, decide_eq_true_eq, decide_eq_true_eq] at h0
      have key : (a ||| g) % 2 = 1 ↔ a % 2 = 1 ∨ g % 2 = 1 := Nat.or_mod_two_eq_one
      have ha2 : a % 2 = 0 ∨ a % 2 = 1 := by omega
      have hg2 : g % 2 = 0 ∨ g % 2 = 1 := by omega
      rcases ha2 with p | p <;> rcases hg2 with q | q
      · have : ¬ (a ||| g) % 2 = 1 := fun h => by rcases key.1 h with h | h <;> omega
        omega
      · have := key.2 (.inr q); omega
      · have := key.2 (.inl p); omega
      · exact (h0 p q).elim
    omega
theorem good_dis {a b c d g0 g1 g2 g3 : Nat} (h : PartD a b c d) (hg : Deal.Good [g0, g1, g2, g3] (lf a b c d)) : Dis a g0 ∧ Dis b g1 ∧ Dis c g2 ∧ Dis d g3 := by
  obtain ⟨s0, _, s1, _, s2, _, s3, _, _⟩ := hg
  exact ⟨(h.lf_dis s0).1, (h.lf_dis (s1.trans (nd_sub _ _))).2.1, (h.lf_dis (s2.trans ((nd_sub _ _).trans (nd_sub _ _)))).2.2.1, (h.lf_dis (s3.trans ((nd_sub _ _).trans ((nd_sub _ _).trans (nd_sub _ _))))).2.2.2⟩
/-- What Complete makes. -/
theorem cp_ok {a b c d n : Nat} (h : PartD a b c d) (hn : n < wy (lks a b c d)) : ∃ g0 g1 g2 g3 : Nat, comp (lks a b c d) (lf a b c d) n = [g0, g1, g2, g3] ∧ Deal.Good [g0, g1, g2, g3] (lf a b c d) ∧ cs [g0, g1, g2, g3] = lks a b c d ∧
    idx [g0, g1, g2, g3] (lf a b c d) = n ∧ cpG a b c d n = (a ||| g0, b ||| g1, c ||| g2, d ||| g3) := by
  obtain ⟨A, B, C⟩ := comp_ok h.lf_cnt hn
  have e : ∃ g0 g1 g2 g3 : Nat, comp (lks a b c d) (lf a b c d) n = [g0, g1, g2, g3] := ⟨_, _, _, _, rfl⟩
  obtain ⟨g0, g1, g2, g3, e⟩ := e
  rw [e] at A B C
  refine ⟨g0, g1, g2, g3, e, A, B, C, ?_⟩
  unfold cpG
  rw [e]
theorem ix_of {a b c d g0 g1 g2 g3 : Nat} (h : PartD a b c d) (hg : Deal.Good [g0, g1, g2, g3] (lf a b c d)) : ixN a b c d (a ||| g0) (b ||| g1) (c ||| g2) (d ||| g3) = idx [g0, g1, g2, g3] (lf a b c d) := by
  obtain ⟨d0, d1, d2, d3⟩ := good_dis h hg
  unfold ixN
  rw [nd_or d0, nd_or d1, nd_or d2, nd_or d3]
theorem ix_ok {a b c d x y z w : Nat} (h : PartD a b c d) (r : RightD x y z w) (ha : Sub a x) (hb : Sub b y) (hc : Sub c z) (hd : Sub d w) :
    ixN a b c d x y z w < wy (lks a b c d) ∧ cpG a b c d (ixN a b c d x y z w) = (x, y, z, w) := by
  obtain ⟨G, C⟩ := RightD.good r ha hb hc hd
  have hl := idx_lt G (by rw [C]; exact h.lf_cnt)
  rw [C] at hl
  refine ⟨hl, ?_⟩
  have e := comp_idx G (by rw [C]; exact h.lf_cnt)
  rw [C] at e
  unfold cpG ixN
  rw [e]
  show (a ||| nd x a, b ||| nd y b, c ||| nd z c, d ||| nd w d) = _
  rw [or_nd ha, or_nd hb, or_nd hc, or_nd hd]
theorem right_last {a b c d d' : Nat} (h : RightD a b c d) (h' : RightD a b c d') : d = d' := by
  have e1 := h.all; have e2 := h'.all
  refine eq_bits h.ld h'.ld fun i hi => ?_
  have t1 : (un a b c d).testBit i = true := by rw [e1, al_bit]; exact decide_eq_true hi
  have t2 : (un a b c d').testBit i = true := by rw [e2, al_bit]; exact decide_eq_true hi
  rw [un_bit] at t1 t2
  have q1 := h.ad i; have q2 := h.bd i; have q3 := h.cd' i
  have r1 := h'.ad i; have r2 := h'.bd i; have r3 := h'.cd' i
  cases ha : a.testBit i <;> cases hb : b.testBit i <;> cases hc : c.testBit i <;> cases hd : d.testBit i <;> cases hd' : d'.testBit i <;> simp_all
/-- The order of two deals, as the law looks for it. -/
def ord3 (x0 x1 x2 y0 y1 y2 : Int) : Int := bif decide (x0 = y0) then bif decide (x1 = y1) then bif decide (x2 = y2) then 0 else bif decide (x2 < y2) then -1 else 1 else bif decide (x1 < y1) then -1 else 1 else bif decide (x0 < y0) then -1 else 1
theorem ord_is {a b c d n m : Nat} (h : PartD a b c d) (hn : n < wy (lks a b c d)) (hm : m < wy (lks a b c d)) {x y z w x' y' z' w' : Nat} (h1 : cpG a b c d n = (x, y, z, w)) (h2 : cpG a b c d m = (x', y', z', w')) :
    ord3 x y z x' y' z' = N2.cmpI (n : Int) (m : Int) := by
  obtain ⟨g0, g1, g2, g3, _, G, C, I, E⟩ := cp_ok h hn
  obtain ⟨k0, k1, k2, k3, _, G', C', I', E'⟩ := cp_ok h hm
  have L := idx_lex G G' (C.trans C'.symm) (by rw [C]; exact h.lf_cnt)
  rw [I, I'] at L
  have R := h.comp G C
  have R' := h.comp G' C'
  rw [E] at h1
  rw [E'] at h2
  simp only [Prod.mk.injEq] at h1 h2
  obtain ⟨rfl, rfl, rfl, rfl⟩ := h1
  obtain ⟨rfl, rfl, rfl, rfl⟩ := h2
  obtain ⟨d0, d1, d2, d3⟩ := good_dis h G
  obtain ⟨f0, f1, f2, f3⟩ := good_dis h G'
  have e0 := or_add_dis 52 a g0 h.la d0; have e1 := or_add_dis 52 b g1 h.lb d1; have e2 := or_add_dis 52 c g2 h.lc d2; have e3 := or_add_dis 52 d g3 h.ld d3
  have e0' := or_add_dis 52 a k0 h.la f0; have e1' := or_add_dis 52 b k1 h.lb f1; have e2' := or_add_dis 52 c k2 h.lc f2; have e3' := or_add_dis 52 d k3 h.ld f3
  have hs : Deal.sgn n m = N2.cmpI (n : Int) (m : Int) := by
    unfold Deal.sgn N2.cmpI
    by_cases q : n < m
    · rw [if_pos q, decide_eq_true (by omega)]; rfl
    · rw [if_neg q, decide_eq_false (by omega)]
      by_cases q' : m < n
      · rw [if_pos q', decide_eq_true (by omega)]; rfl
      · rw [if_neg q', decide_eq_false (by omega)]; rfl
  rw [← hs, ← L]
  unfold ord3
  simp only [lex]
  by_cases q0 : g0 = k0
  · subst q0
    rw [decide_eq_true rfl, cond_true, if_neg (by omega), if_neg (by omega)]
    by_cases q1 : g1 = k1
    · subst q1
      rw [decide_eq_true rfl, cond_true, if_neg (by omega), if_neg (by omega)]
      by_cases q2 : g2 = k2
      · subst q2
        have hl := right_last R R'
        rw [e3, e3'] at hl
        rw [decide_eq_true rfl, cond_true, if_neg (by omega), if_neg (by omega), if_neg (by omega), if_neg (by omega)]
      · rw [decide_eq_false (by omega), cond_false]
        by_cases s : g2 < k2
        · rw [if_pos s, decide_eq_true (by omega)]; rfl
        · rw [if_neg s, if_pos (by omega), decide_eq_false (by omega)]; rfl
    · rw [decide_eq_false (by omega), cond_false]
      by_cases s : g1 < k1
      · rw [if_pos s, decide_eq_true (by omega)]; rfl
      · rw [if_neg s, if_pos (by omega), decide_eq_false (by omega)]; rfl
  · rw [decide_eq_false (by omega), cond_false]
    by_cases s : g0 < k0
    · rw [if_pos s, decide_eq_true (by omega)]; rfl
    · rw [if_neg s, if_pos (by omega), decide_eq_false (by omega)]; rfl
end Go.Proofs.YtpalajfcffdhoaaGreat
