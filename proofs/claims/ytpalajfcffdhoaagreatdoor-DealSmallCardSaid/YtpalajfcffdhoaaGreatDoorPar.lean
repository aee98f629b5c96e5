/- Texts merged: Par, Del, Cpl, Ind. -/
import Derived.Test.YtpalajfcffdhoaaGreatDoorOrdL
/- Chapter 6: Partial, others. -/
namespace Go.Proofs.YtpalajfcffdhoaaGreatDoor
open Go Go.Eng Go.Deal
def flsV : Option V := some (.bool false)
def parS (N : N6) (x u : Int) (K : Option V) : Option V := bif decide (4503599627370495 < x) then flsV else bif N.u x then bif decide (13 < N.oc x) then flsV else bif !decide (bitsI .and .u64 x u = 0) then flsV else K else none
def orI (a b : Int) : Int := bitsI .or .u64 a b
theorem par_eval (N : N6) (a b c d : Int) : evalFn Tryz.prog (orcN N (tabN N) plainL) noLoops 100 20 Tryz.f20 [.agg [.int .u64 a, .int .u64 b, .int .u64 c, .int .u64 d]] [] (fun v _ => some v) =
    parS N a 0 (parS N b (orI 0 a) (parS N c (orI (orI 0 a) b) (parS N d (orI (orI (orI 0 a) b) c) (some (.bool true))))) := by kernel_rfl
theorem parS_is {x u : Nat} (hx : x < 18446744073709551616) (hu : u < 18446744073709551616) (K : Option V) : parS n6 x u K = if x < 2 ^ 52 ∧ cnt x 52 ≤ 13 ∧ x &&& u = 0 then K else flsV := by
  unfold parS
  by_cases h1 : x < 4503599627370496
  · rw [decide_eq_false (show ¬ (4503599627370495 : Int) < x by omega), u_n hx, cntI_52 h1, and_nat hx hu]
    by_cases h2 : cnt x 52 ≤ 13
    · rw [decide_eq_false (show ¬ (13 : Int) < ((cnt x 52 : Nat) : Int) by omega)]
      by_cases h3 : x &&& u = 0
      · rw [if_pos ⟨h1, h2, h3⟩, h3]; rfl
      · rw [if_neg (fun h => h3 h.2.2), decide_eq_false (by omega)]; rfl
    · rw [if_neg (fun h => h2 h.2.1), decide_eq_true (by omega)]; rfl
  · rw [if_neg (fun h => h1 h.1), decide_eq_true (by omega)]; rfl
theorem dis_and {a b : Nat} : a &&& b = 0 ↔ Dis a b := by
  constructor
  · intro h i x y
    have : (a &&& b).testBit i = true := by rw [Nat.testBit_and, x, y]; rfl
    rw [h, Nat.zero_testBit] at this; cases this
  · intro h
    refine Nat.eq_of_testBit_eq fun i => ?_
    rw [Nat.testBit_and, Nat.zero_testBit]
    cases ha : a.testBit i with
    | false => rfl
    | true =>
      cases hb : b.testBit i with
      | false => rfl
      | true => exact (h i ha hb).elim
theorem dis_or {a b c : Nat} : Dis c (a ||| b) ↔ Dis c a ∧ Dis c b := by
  constructor
  · intro h
    exact ⟨fun i x y => h i x (by rw [Nat.testBit_or, y]; rfl), fun i x y => h i x (by rw [Nat.testBit_or, y]; simp)⟩
  · exact fun h => h.1.or_r h.2
open Classical in
noncomputable def parB (a b c d : Int) : Bool := decide (PartD a.toNat b.toNat c.toNat d.toNat)
theorem parB_iff {a b c d : Nat} : parB a b c d = true ↔ PartD a b c d := by
  exact @decide_eq_true_iff (PartD (a : Int).toNat (b : Int).toNat (c : Int).toNat (d : Int).toNat) (Classical.propDecidable _)
theorem par_iff {a b c d : Nat} : PartD a b c d ↔ (a < 2 ^ 52 ∧ cnt a 52 ≤ 13 ∧ a &&& 0 = 0) ∧ (b < 2 ^ 52 ∧ cnt b 52 ≤ 13 ∧ b &&& a = 0) ∧ (c < 2 ^ 52 ∧ cnt c 52 ≤ 13 ∧ c &&& (a ||| b) = 0) ∧ (d < 2 ^ 52 ∧ cnt d 52 ≤ 13 ∧ d &&& (a ||| b ||| c) = 0) := by
  rw [dis_and, dis_and, dis_and, dis_and, dis_or, dis_or, dis_or]
  constructor
  · intro h
    exact ⟨⟨h.la, h.ca, fun i _ y => by rw [Nat.zero_testBit] at y; cases y⟩, ⟨h.lb, h.cb, h.ab.symm⟩, ⟨h.lc, h.cc, h.ac.symm, h.bc.symm⟩, ⟨h.ld, h.cd, ⟨h.ad.symm, h.bd.symm⟩, h.cd'.symm⟩⟩
  · rintro ⟨⟨a1, a2, _⟩, ⟨b1, b2, b3⟩, ⟨c1, c2, c3, c4⟩, ⟨d1, d2, ⟨d3, d4⟩, d5⟩⟩
    exact ⟨a1, b1, c1, d1, a2, b2, c2, d2, b3.symm, c3.symm, d3.symm, c4.symm, d4.symm, d5.symm⟩
def in4 (a b c d : Int) : Bool := in64 a && in64 b && in64 c && in64 d
theorem in4_nat {a b c d : Int} (h : in4 a b c d = true) : ∃ a' b' c' d' : Nat, a = a' ∧ b = b' ∧ c = c' ∧ d = d' ∧ a' < 18446744073709551616 ∧ b' < 18446744073709551616 ∧ c' < 18446744073709551616 ∧ d' < 18446744073709551616 := by
  unfold in4 at h
  simp only [Bool.and_eq_true, in64_iff] at h
  exact ⟨a.toNat, b.toNat, c.toNat, d.toNat, by omega, by omega, by omega, by omega, by omega, by omega, by omega, by omega⟩
theorem par_p {a b c d : Int} (h : in4 a b c d = true) : FnPure Tryz.prog 20 [.agg [.int .u64 a, .int .u64 b, .int .u64 c, .int .u64 d]] (.bool (parB a b c d)) := by
  obtain ⟨a, b, c, d, rfl, rfl, rfl, rfl, ha, hb, hc, hd⟩ := in4_nat h
  refine fnPure_of_eval (N := 100) (orcN_ok tabN_ok plainL_ok) mixed Tryz.func20 (by kernel_rfl) noLoops_ok ?_ rfl rfl
  have o1 : orI 0 (a : Int) = (a : Int) := by
    have := or_nat (a := 0) (b := a) (by decide) ha
    rw [Nat.zero_or] at this; exact this
  have o2 : orI (a : Int) (b : Int) = ((a ||| b : Nat) : Int) := or_nat ha hb
  have l2 : a ||| b < 18446744073709551616 := Nat.or_lt_two_pow (n := 64) ha hb
  have o3 : orI ((a ||| b : Nat) : Int) (c : Int) = ((a ||| b ||| c : Nat) : Int) := or_nat l2 hc
  have l3 : a ||| b ||| c < 18446744073709551616 := Nat.or_lt_two_pow (n := 64) l2 hc
  rw [par_eval, o1, o2, o3, show (0 : Int) = ((0 : Nat) : Int) from rfl, parS_is ha (by decide), parS_is hb ha, parS_is hc l2, parS_is hd l3]
  have hq := (parB_iff (a := a) (b := b) (c := c) (d := d)).trans par_iff
  by_cases p1 : a < 2 ^ 52 ∧ cnt a 52 ≤ 13 ∧ a &&& 0 = 0
  · by_cases p2 : b < 2 ^ 52 ∧ cnt b 52 ≤ 13 ∧ b &&& a = 0
    · by_cases p3 : c < 2 ^ 52 ∧ cnt c 52 ≤ 13 ∧ c &&& (a ||| b) = 0
      · by_cases p4 : d < 2 ^ 52 ∧ cnt d 52 ≤ 13 ∧ d &&& (a ||| b ||| c) = 0
        · rw [if_pos p1, if_pos p2, if_pos p3, if_pos p4, hq.2 ⟨p1, p2, p3, p4⟩]
        · rw [if_pos p1, if_pos p2, if_pos p3, if_neg p4, Bool.eq_false_iff.2 (fun h => p4 (hq.1 h).2.2.2)]; rfl
      · rw [if_pos p1, if_pos p2, if_neg p3, Bool.eq_false_iff.2 (fun h => p3 (hq.1 h).2.2.1)]; rfl
    · rw [if_pos p1, if_neg p2, Bool.eq_false_iff.2 (fun h => p2 (hq.1 h).2.1)]; rfl
  · rw [if_neg p1, Bool.eq_false_iff.2 (fun h => p1 (hq.1 h).1)]; rfl
def o0 (a b c d : Int) : Int := ((wy (lks a.toNat b.toNat c.toNat d.toNat) : Nat) : Int)
def o1 (_ b c d : Int) : Int := ((wy [lk b.toNat, lk c.toNat, lk d.toNat] : Nat) : Int)
def o2 (_ _ c d : Int) : Int := ((wy [lk c.toNat, lk d.toNat] : Nat) : Int)
theorem lk_n {a : Nat} (h : a < 4503599627370496) (hc : cnt a 52 ≤ 13) : nd1 n6 (a : Int) = ((lk a : Nat) : Int) ∧ lk a ≤ 13 := by
  unfold nd1 lk
  rw [cntI_52 h, wr64 (by omega) (by omega)]
  omega
theorem oth_p {a b c d : Int} (h : in4 a b c d = true) (hp : parB a b c d = true) : FnPure Tryz.prog 45 [.agg [.int .u64 a, .int .u64 b, .int .u64 c, .int .u64 d]]
    (.agg [.int .u32 (n6.w0 (o0 a b c d)), .int .u32 (n6.w1 (o0 a b c d)), .int .u32 (n6.w2 (o0 a b c d)), .int .u32 (n6.w3 (o0 a b c d)), .int .u32 (n6.w0 (o1 a b c d)), .int .u32 (n6.w1 (o1 a b c d)), .int .u32 (n6.w2 (o1 a b c d)), .int .u32 (n6.w3 (o1 a b c d)),
      .int .u32 (n6.w0 (o2 a b c d)), .int .u32 (n6.w1 (o2 a b c d)), .int .u32 (n6.w2 (o2 a b c d)), .int .u32 (n6.w3 (o2 a b c d)), .int .u32 1, .int .u32 0, .int .u32 0, .int .u32 0, .int .u32 1, .int .u32 0, .int .u32 0, .int .u32 0]) := by
  obtain ⟨a, b, c, d, rfl, rfl, rfl, rfl, ha, hb, hc, hd⟩ := in4_nat h
  have P := parB_iff.1 hp
  refine fnPure_of_eval (N := 100) (orcN_ok tabN_ok plainL_ok) mixed Tryz.func45 (by kernel_rfl) noLoops_ok ?_ rfl rfl
  rw [oth_eval]
  obtain ⟨na, la⟩ := lk_n (show a < 4503599627370496 from P.la) P.ca
  obtain ⟨nb, lb⟩ := lk_n (show b < 4503599627370496 from P.lb) P.cb
  obtain ⟨nc, lc⟩ := lk_n (show c < 4503599627370496 from P.lc) P.cc
  obtain ⟨nd, ld⟩ := lk_n (show d < 4503599627370496 from P.ld) P.cd
  have c3 : cd3 n6 (d : Int) = ((lk d : Nat) : Int) := by unfold cd3; rw [nd, wr64 (by omega) (by omega)]; omega
  have c2 : cd2 n6 (c : Int) (d : Int) = ((lk c + lk d : Nat) : Int) := by unfold cd2; rw [c3, nc, wr64 (by omega) (by omega)]; omega
  have c1 : cd1 n6 (b : Int) (c : Int) (d : Int) = ((lk b + (lk c + lk d) : Nat) : Int) := by unfold cd1; rw [c2, nb, wr64 (by omega) (by omega)]; omega
  have c0 : cd0 n6 (a : Int) (b : Int) (c : Int) (d : Int) = ((lk a + (lk b + (lk c + lk d)) : Nat) : Int) := by unfold cd0; rw [c1, na, wr64 (by omega) (by omega)]; omega
  obtain ⟨f0, f1, f2, f3⟩ := wy_four la lb lc ld
  have b52 : ∀ {n k : Nat}, n ≤ 52 → bc n k < 340282366920938463463374607431768211456 := fun hn => Nat.lt_trans (bc_52 hn) (by decide)
  have w3 : ow3 n6 (d : Int) = ((1 : Nat) : Int) := by
    unfold ow3
    rw [c3, nd, chq (by omega) (by omega), qq (b52 (by omega)), show n6.z 1 0 0 0 = ((1 : Nat) : Int) from smallz 1, bc_self, mulq (by decide)]
  have e2 : wy [lk c, lk d] = 1 * bc (lk c + lk d) (lk c) := by rw [wy, f3, Nat.mul_one, Nat.one_mul]; simp only [sm, Nat.add_zero]
  have w2 : ow2 n6 (c : Int) (d : Int) = ((wy [lk c, lk d] : Nat) : Int) := by
    unfold ow2
    rw [w3, c2, nc, chq (by omega) (by omega), qq (b52 (by omega)), qq (by decide), mulq (by rw [← e2]; omega), e2]
  have e1 : wy [lk b, lk c, lk d] = wy [lk c, lk d] * bc (lk b + (lk c + lk d)) (lk b) := by rw [wy, Nat.mul_comm]; simp only [sm, Nat.add_zero]
  have w1 : ow1 n6 (b : Int) (c : Int) (d : Int) = ((wy [lk b, lk c, lk d] : Nat) : Int) := by
    unfold ow1
    rw [w2, c1, nb, chq (by omega) (by omega), qq (b52 (by omega)), qq (by omega), mulq (by rw [← e1]; omega), e1]
  have e0 : wy [lk a, lk b, lk c, lk d] = wy [lk b, lk c, lk d] * bc (lk a + (lk b + (lk c + lk d))) (lk a) := by rw [wy, Nat.mul_comm]; simp only [sm, Nat.add_zero]
  have w0 : ow0 n6 (a : Int) (b : Int) (c : Int) (d : Int) = ((wy [lk a, lk b, lk c, lk d] : Nat) : Int) := by
    unfold ow0
    rw [w1, c0, na, chq (by omega) (by omega), qq (b52 (by omega)), qq (by omega), mulq (by rw [← e0]; omega), e0]
  rw [u_n ha, u_n hb, u_n hc, u_n hd, show n6.inn 1 0 0 0 = true from smalli (x := 1) (by decide), w0, w1, w2, w3]
  simp only [ii, Bool.and_true, cond_true]
  unfold o0 o1 o2 lks
  rw [Int.toNat_natCast, Int.toNat_natCast, Int.toNat_natCast, Int.toNat_natCast]
  rw [nw0, nw1, nw2, nw3, w01, w11, w21, w31]
end Go.Proofs.YtpalajfcffdhoaaGreatDoor

/- Chapter 6: the package's own functions, over names. -/
namespace Go.Proofs.YtpalajfcffdhoaaGreatDoor
open Go Go.Eng Go.Deal
structure D6 where
  n : N6
  pb : Int → Int → Int → Int → Bool
  o0 : Int → Int → Int → Int → Int
  o1 : Int → Int → Int → Int → Int
  o2 : Int → Int → Int → Int → Int
  sb : Int → Int → Int → Int
  sbk : Int → Int → Int → Bool
  od : Int → Int → Int
  odk : Int → Int → Bool
def D6.u4 (D : D6) (a b c d : Int) : Bool := D.n.u a && D.n.u b && D.n.u c && D.n.u d
def gPar (D : D6) : List V → Option (Bool × V)
  | [.agg [.int .u64 a, .int .u64 b, .int .u64 c, .int .u64 d]] => some (D.u4 a b c d, .bool (D.pb a b c d))
  | _ => none
def gOth (D : D6) : List V → Option (Bool × V)
  | [.agg [.int .u64 a, .int .u64 b, .int .u64 c, .int .u64 d]] => some (D.u4 a b c d && D.pb a b c d,
    .agg [.int .u32 (D.n.w0 (D.o0 a b c d)), .int .u32 (D.n.w1 (D.o0 a b c d)), .int .u32 (D.n.w2 (D.o0 a b c d)), .int .u32 (D.n.w3 (D.o0 a b c d)), .int .u32 (D.n.w0 (D.o1 a b c d)), .int .u32 (D.n.w1 (D.o1 a b c d)), .int .u32 (D.n.w2 (D.o1 a b c d)), .int .u32 (D.n.w3 (D.o1 a b c d)),
      .int .u32 (D.n.w0 (D.o2 a b c d)), .int .u32 (D.n.w1 (D.o2 a b c d)), .int .u32 (D.n.w2 (D.o2 a b c d)), .int .u32 (D.n.w3 (D.o2 a b c d)), .int .u32 1, .int .u32 0, .int .u32 0, .int .u32 0, .int .u32 1, .int .u32 0, .int .u32 0, .int .u32 0])
  | _ => none
def gSub (D : D6) : List V → Option (Bool × V)
  | [.int .u64 m, .int .i64 k, .agg [.int .u32 a, .int .u32 b, .int .u32 c, .int .u32 d]] => some (D.n.inn a b c d && D.sbk m k (D.n.z a b c d), .int .u64 (D.sb m k (D.n.z a b c d)))
  | _ => none
def gOrd (D : D6) : List V → Option (Bool × V)
  | [.int .u64 m, .int .u64 g] => some (D.odk m g, D.n.nW (D.od m g))
  | _ => none
def gLk (D : D6) : List V → Option (Bool × V)
  | [.int .u64 x] => some (D.n.u x, .int .i64 (nd1 D.n x))
  | _ => none
theorem lk_eval (N : N6) (x : Int) : evalFn Tryz.prog (orcN N (tabN N) plainL) noLoops 100 65 Tryz.f65 [.int .u64 x] [] (fun v _ => some v) = bif N.u x then some (.int .i64 (nd1 N x)) else none := by kernel_rfl
def tabE (D : D6) : PTab := addTab 65 (gLk D) (addTab 20 (gPar D) (addTab 45 (gOth D) (addTab 64 (gSub D) (addTab 67 (gOrd D) (tabN D.n)))))
noncomputable abbrev orcE (D : D6) (LL : FuncId → Loops) : Oracle := orcN D.n (tabE D) LL
noncomputable def d6 : D6 := ⟨n6, parB, o0, o1, o2, g6, sbOk, og6, odOk⟩
theorem tabE_ok : PTabOk Tryz.prog (tabE d6) := by
  refine addTab_ok ?_ (addTab_ok ?_ (addTab_ok ?_ (addTab_ok ?_ (addTab_ok ?_ tabN_ok))))
  · intro args c v h hc
    unfold gLk at h
    split at h
    · cases h
      refine fnPure_of_eval (N := 100) (orcN_ok tabN_ok plainL_ok) mixed Tryz.func65 (by kernel_rfl) noLoops_ok ?_ rfl rfl
      rw [lk_eval]
      exact congrArg (fun b => bif b then _ else none) hc
    · cases h
  · intro args c v h hc
    unfold gPar at h
    split at h
    · cases h; exact par_p hc
    · cases h
  · intro args c v h hc
    unfold gOth at h
    split at h
    · cases h; rw [Bool.and_eq_true] at hc; exact oth_p hc.1 hc.2
    · cases h
  · intro args c v h hc
    unfold gSub at h
    split at h
    · cases h; rw [Bool.and_eq_true] at hc; exact sub_p hc.1 hc.2
    · cases h
  · intro args c v h hc
    unfold gOrd at h
    split at h
    · cases h; exact ord_p hc
    · cases h
theorem orcE_ok {LL : FuncId → Loops} (hL : ∀ f, loopsOk Tryz.prog (LL f)) : OracleOk Tryz.prog (orcE d6 LL) := orcN_ok tabE_ok hL
noncomputable abbrev evE (D : D6) (f : FuncId) (fn : Func) (args : List V) : Option V := evalFn Tryz.prog (orcE D plainL) noLoops 100 f fn args [] (fun v _ => some v)
def q4 (a b c d : Int) : V := .agg [.int .u64 a, .int .u64 b, .int .u64 c, .int .u64 d]
end Go.Proofs.YtpalajfcffdhoaaGreatDoor

/- Chapter 6: Left, Right, Ways, Owner, Complete, Index: their formulas. -/
namespace Go.Proofs.YtpalajfcffdhoaaGreatDoor
open Go Go.Eng Go.Deal
def anI (a b : Int) : Int := bitsI .andNot .u64 a b
def unI (a b c d : Int) : Int := orI (orI (orI a b) c) d
def lfF (a b c d : Int) : Int := anI 4503599627370495 (unI a b c d)
section
variable (D : D6)
theorem left_eval (a b c d : Int) : evE D 12 Tryz.f12 [q4 a b c d] = bif D.u4 a b c d then bif !D.pb a b c d then some (.tuple [.int .u64 0, .int .i64 60]) else some (.tuple [.int .u64 (lfF a b c d), .int .i64 0]) else none := by kernel_rfl
theorem right_eval (a b c d : Int) : evE D 18 Tryz.f18 [q4 a b c d] = bif D.u4 a b c d then bif D.pb a b c d then some (.bool (decide (unI a b c d = 4503599627370495))) else some (.bool false) else none := by kernel_rfl
theorem ways_eval (a b c d : Int) : evE D 14 Tryz.f14 [q4 a b c d] = bif D.u4 a b c d then bif !D.pb a b c d then some (.tuple [.agg [.int .u32 0, .int .u32 0, .int .u32 0, .int .u32 0], .int .i64 60]) else
    bif D.u4 a b c d && D.pb a b c d then some (.tuple [D.n.nW (D.o0 a b c d), .int .i64 0]) else none else none := by kernel_rfl
noncomputable def cpS (w : Int) (wi : Bool) (h l z : Int) (zi : Bool) (K : Int → Int → Int → Option V) : Option V :=
  bif zi && wi then bif D.n.u h then bif D.n.i (D.n.quo z w) && D.sbk l (nd1 D.n h) (D.n.q (D.n.quo z w)) then
    K (orI h (D.sb l (nd1 D.n h) (D.n.q (D.n.quo z w)))) (anI l (D.sb l (nd1 D.n h) (D.n.q (D.n.quo z w)))) (D.n.rem z w) else none else none else none
def zero4 : V := .agg [.int .u64 0, .int .u64 0, .int .u64 0, .int .u64 0]
theorem cpl_eval (a b c d e f g h : Int) : evE D 34 Tryz.f34 [q4 a b c d, .agg [.int .u32 e, .int .u32 f, .int .u32 g, .int .u32 h]] =
    bif D.u4 a b c d then bif !D.pb a b c d then some (.tuple [zero4, .int .i64 60]) else bif D.u4 a b c d && D.pb a b c d then bif D.n.inn e f g h && D.n.i (D.o0 a b c d) then
      bif decide (0 ≤ D.n.cmp (D.n.z e f g h) (D.n.q (D.o0 a b c d))) then some (.tuple [zero4, .int .i64 6]) else
      cpS D (D.n.q (D.o1 a b c d)) (D.n.i (D.o1 a b c d)) a (lfF a b c d) (D.n.z e f g h) (D.n.inn e f g h) fun a' l1 m1 =>
      cpS D (D.n.q (D.o2 a b c d)) (D.n.i (D.o2 a b c d)) b l1 (D.n.q m1) (D.n.i m1) fun b' l2 m2 =>
      cpS D (D.n.z 1 0 0 0) (D.n.inn 1 0 0 0) c l2 (D.n.q m2) (D.n.i m2) fun c' l3 m3 =>
      cpS D (D.n.z 1 0 0 0) (D.n.inn 1 0 0 0) d l3 (D.n.q m3) (D.n.i m3) fun d' _ _ => some (.tuple [q4 a' b' c' d', .int .i64 0])
    else none else none else none := by kernel_rfl
end
end Go.Proofs.YtpalajfcffdhoaaGreatDoor

/- Chapter 6: Index, Owner: their formulas. -/
namespace Go.Proofs.YtpalajfcffdhoaaGreatDoor
open Go Go.Eng Go.Deal
section
variable (D : D6)
noncomputable def ixS (w : Int) (wi : Bool) (h p l s : Int) (si : Bool) (K : Int → Int → Option V) : Option V :=
  bif D.odk l (anI h p) then bif D.n.i (D.od l (anI h p)) && wi then bif si && D.n.i (D.n.mul (D.n.q (D.od l (anI h p))) w) then
    K (anI l (anI h p)) (D.n.add s (D.n.q (D.n.mul (D.n.q (D.od l (anI h p))) w))) else none else none else none
def zeroN : V := .agg [.int .u32 0, .int .u32 0, .int .u32 0, .int .u32 0]
theorem idx_eval (a b c d x y z w : Int) : evE D 35 Tryz.f35 [q4 a b c d, q4 x y z w] =
    bif D.u4 a b c d then bif !D.pb a b c d then some (.tuple [zeroN, .int .i64 60]) else bif D.u4 x y z w then bif D.pb x y z w then bif !decide (unI x y z w = 4503599627370495) then some (.tuple [zeroN, .int .i64 60]) else
      bif !decide (anI a x = 0) then some (.tuple [zeroN, .int .i64 6]) else bif !decide (anI b y = 0) then some (.tuple [zeroN, .int .i64 6]) else bif !decide (anI c z = 0) then some (.tuple [zeroN, .int .i64 6]) else bif !decide (anI d w = 0) then some (.tuple [zeroN, .int .i64 6]) else
      bif D.u4 a b c d && D.pb a b c d then
      ixS D (D.n.q (D.o1 a b c d)) (D.n.i (D.o1 a b c d)) x a (lfF a b c d) (D.n.z 0 0 0 0) (D.n.inn 0 0 0 0) fun l1 s1 =>
      ixS D (D.n.q (D.o2 a b c d)) (D.n.i (D.o2 a b c d)) y b l1 (D.n.q s1) (D.n.i s1) fun l2 s2 =>
      ixS D (D.n.z 1 0 0 0) (D.n.inn 1 0 0 0) z c l2 (D.n.q s2) (D.n.i s2) fun l3 s3 =>
      ixS D (D.n.z 1 0 0 0) (D.n.inn 1 0 0 0) w d l3 (D.n.q s3) (D.n.i s3) fun _ s4 => some (.tuple [D.n.nW s4, .int .i64 0])
      else none
    else some (.tuple [zeroN, .int .i64 60]) else none else none := by kernel_rfl
end
end Go.Proofs.YtpalajfcffdhoaaGreatDoor
