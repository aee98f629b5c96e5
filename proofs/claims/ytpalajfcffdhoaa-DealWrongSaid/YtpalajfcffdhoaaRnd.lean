/- Texts merged: Rnd, RndQ. -/
import Derived.Test.YtpalajfcffdhoaaSeQ2
import Derived.Test.YtpalajfcffdhoaaSNbP
/- Chapter 6: Random: its formula; the law DealDrawn's formula. -/
namespace Go.Proofs.Ytpalajfcffdhoaa
open Go Go.Eng Go.Deal
structure D8 where
  d : D7
  of : Int → Int
  rb : Int → Bool
  bs : Int → Int → Int
  bv : Int → Int → Int
  be : Int → Int → Int
  rs : Int → I4
  r0 : Int → I4
  r1 : Int → I4
  r2 : Int → I4
  r3 : Int → I4
  re : Int → I4
section
variable (D : D8)
def hOf : List V → Option (Bool × V)
  | [.int .i64 n] => some (true, .int .i64 (D.of n))
  | _ => none
def hRb : List V → Option (Bool × V)
  | [.int .i64 n] => some (true, .bool (D.rb n))
  | _ => none
def hBn : List V → Option (Bool × V)
  | [.int .i64 s, .agg [.int .u32 a, .int .u32 b, .int .u32 c, .int .u32 d]] => some (D.d.n.inn a b c d, .tuple [.int .i64 (D.bs s (D.d.n.z a b c d)), D.d.n.nW (D.bv s (D.d.n.z a b c d)), .int .i64 (D.be s (D.d.n.z a b c d))])
  | _ => none
def hRn : List V → Option (Bool × V)
  | [.int .i64 s, .agg [.int .u64 a, .int .u64 b, .int .u64 c, .int .u64 d]] => some (D.d.u a b c d, .tuple [.int .i64 (D.rs s a b c d), q4 (D.r0 s a b c d) (D.r1 s a b c d) (D.r2 s a b c d) (D.r3 s a b c d), .int .i64 (D.re s a b c d)])
  | _ => none
def tabS8 : PTab := addTab 26 (hOf D) (addTab 27 (hRb D) (addTab 28 (hBn D) (tab7 D.d)))
def tab8 : PTab := addTab 24 (hRn D) (tabS8 D)
noncomputable abbrev orc8 (T : PTab) : Oracle := inl Try.prog ftab T plainL 100 never dom7 (hOrcP nrN (hTab7 D.d)) 20
def D8.Rq (s : Int) (q : DQ) : DQ := ⟨D.r0 s q.a q.b q.c q.d, D.r1 s q.a q.b q.c q.d, D.r2 s q.a q.b q.c q.d, D.r3 s q.a q.b q.c q.d⟩
def D8.Re (s : Int) (q : DQ) : Int := D.re s q.a q.b q.c q.d
def D8.Rs (s : Int) (q : DQ) : Int := D.rs s q.a q.b q.c q.d
theorem rnd_eval (s : Int) (P : DQ) : evalFn Try.prog (orc8 D (tabS8 D)) noLoops 100 24 Try.f24 [.int .i64 s, P.v] [] (fun v _ => some v) =
    bif !D.rb s then some (.tuple [.int .i64 0, zero4, .int .i64 2]) else bif D.d.U P then bif !decide (D.d.Le P = 0) then some (.tuple [.int .i64 0, zero4, .int .i64 (D.d.Le P)]) else
    bif D.d.n.i (D.d.Wy P) then bif !decide (D.be s (D.d.n.q (D.d.Wy P)) = 0) then some (.tuple [.int .i64 0, zero4, .int .i64 (D.be s (D.d.n.q (D.d.Wy P)))]) else
    bif D.d.U P && D.d.n.i (D.bv s (D.d.n.q (D.d.Wy P))) then bif !decide (D.d.Ce P (D.d.n.q (D.bv s (D.d.n.q (D.d.Wy P)))) = 0) then some (.tuple [.int .i64 0, zero4, .int .i64 (D.d.Ce P (D.d.n.q (D.bv s (D.d.n.q (D.d.Wy P)))))]) else
      some (.tuple [.int .i64 (D.bs s (D.d.n.q (D.d.Wy P))), (D.d.C P (D.d.n.q (D.bv s (D.d.n.q (D.d.Wy P))))).v, .int .i64 0]) else none else none else none := by kernel_rfl
noncomputable def dr1 (P X : DQ) (S A W : Int) : Option V := bif !decide (D.Re S P = 0) then flsV else bif !decide (D.Re S P = 0) then flsV else bif !decide (A = A) then flsV else bif !eqQ X X then flsV else bif D.d.U X then bif !D.d.Rg X then flsV else bif !D.rb A then flsV else
  bif !decide (anI P.a X.a = 0) then flsV else bif !decide (anI P.b X.b = 0) then flsV else bif !decide (anI P.c X.c = 0) then flsV else bif !decide (anI P.d X.d = 0) then flsV else
  bif D.d.U P then bif D.d.n.i W then bif D.d.U P && D.d.U X then bif D.d.U X then bif decide (D.be S (D.d.n.q W) = 0) then bif decide (D.d.Ie P X = 0) then bif decide (D.Re S X = 0) then bif decide (A = D.bs S (D.d.n.q W)) then
  bif eqW D.d (D.d.Ix P X) (D.bv S (D.d.n.q W)) then bif eqQ (D.Rq S X) X then truV else flsV else flsV else flsV else flsV else flsV else flsV else none else none else none else none else none
theorem drawn_eval (nn : Bool) (ls : List Int) (w n : Int) : evalFn Try.prog (orc8 D (tab8 D)) noLoops 100 8 Try.f8 [.gs 0, .int .u64 w, .int .i64 n] [.rs nn 1 (.ints .u8 ls)] (fun v _ => some v) =
    bif D.d.ok ls then bif D.d.U (D.d.P ls w) then bif D.d.U (D.d.P ls w) then dr1 D (D.d.P ls w) (D.Rq (D.of n) (D.d.P ls w)) (D.of n) (D.Rs (D.of n) (D.d.P ls w)) (D.d.Wy (D.d.P ls w)) else none else none else none := by cases nn <;> kernel_rfl
end
end Go.Proofs.Ytpalajfcffdhoaa

/- Chapter 6: Random's contract; the law DealDrawn answers true. -/
namespace Go.Proofs.Ytpalajfcffdhoaa.N3
open Go Go.Eng
theorem ofI_right (n : Int) : rightB (ofI n) = true := by
  unfold ofI rightB
  by_cases h : n.tmod 2147483646 < 0
  · rw [decide_eq_true h, cond_true]
    have h1 : -2147483646 < n.tmod 2147483646 := by
      rcases Int.le_total 0 n with h | h
      · have := Int.tmod_nonneg 2147483646 h
        omega
      · have h4 := Int.tmod_lt_of_pos (-n) (show (0 : Int) < 2147483646 by omega)
        rw [Int.neg_tmod] at h4
        omega
    rw [wr64 (x := n.tmod 2147483646 + 2147483646) (by omega) (by omega), wr64 (by omega) (by omega)]
    simp only [Bool.and_eq_true, decide_eq_true_eq]; omega
  · rw [decide_eq_false h, cond_false]
    have := Int.tmod_lt_of_pos n (b := 2147483646) (by omega)
    rw [wr64 (by omega) (by omega)]
    simp only [Bool.and_eq_true, decide_eq_true_eq]; omega
theorem natBz_ok {s z : Int} (hs : rightB s = true) (h1 : 1 ≤ z) (h2 : z ≤ 1329227995784915872903807060280344576) : natBz s z = false := by
  unfold natBz
  rw [hs, decide_eq_false (show ¬ z = 0 by omega), decide_eq_false (show ¬ 1329227995784915872903807060280344576 < z by omega)]; rfl
theorem remZ_lt {x z : Int} (_ : 0 ≤ x) (hz : 1 ≤ z) : 0 ≤ N2.remZ x z ∧ N2.remZ x z < z ∧ N2.remZ x z = x % z := by
  unfold N2.remZ
  rw [decide_eq_false (show ¬ z = 0 by omega), cond_false]
  have h1 := Int.emod_nonneg x (show z ≠ 0 by omega)
  have h2 := Int.emod_lt_of_pos x (show 0 < z by omega)
  exact ⟨h1, h2, rfl⟩
theorem natD_in {s z : Int} (hs : rightB s = true) (h1 : 1 ≤ z) (h2 : z ≤ 1329227995784915872903807060280344576) : rightB (natD s z).1 = true ∧ inZ (natD s z).2 := by
  have hk := natK_ok h1 h2
  have hd := drawN_in (natK 4 1 2147483646 z).1 s 0 1 hs (by unfold inZ; omega) (by unfold inZ; omega)
  exact natR_in _ _ _ _ _ hd.1 hd.2
theorem natV_lt {s z : Int} (hs : rightB s = true) (h1 : 1 ≤ z) (h2 : z ≤ 1329227995784915872903807060280344576) : 0 ≤ natV s z ∧ natV s z < z := by
  unfold natV
  rw [natBz_ok hs h1 h2, cond_false]
  have := remZ_lt (natD_in hs h1 h2).2.1 h1
  omega
end Go.Proofs.Ytpalajfcffdhoaa.N3
namespace Go.Proofs.Ytpalajfcffdhoaa
open Go Go.Eng Go.Deal
def bnE (s z : Int) : Int := N3.errI (!N3.natBz s z)
noncomputable def rnB (s a b c d : Int) : Bool := N3.rightB s && parB a b c d
noncomputable def rnS (s a b c d : Int) : Int := bif rnB s a b c d then N3.natS s (wyI a b c d) else 0
noncomputable def rn0 (s a b c d : Int) : Int := bif rnB s a b c d then cp0 a b c d (N3.natV s (wyI a b c d)) else 0
noncomputable def rn1 (s a b c d : Int) : Int := bif rnB s a b c d then cp1 a b c d (N3.natV s (wyI a b c d)) else 0
noncomputable def rn2 (s a b c d : Int) : Int := bif rnB s a b c d then cp2 a b c d (N3.natV s (wyI a b c d)) else 0
noncomputable def rn3 (s a b c d : Int) : Int := bif rnB s a b c d then cp3 a b c d (N3.natV s (wyI a b c d)) else 0
noncomputable def rnE (s a b c d : Int) : Int := bif N3.rightB s then bif parB a b c d then 0 else 60 else 2
noncomputable def d8 : D8 := ⟨d7, N3.ofI, N3.rightB, N3.natS, N3.natV, bnE, rnS, rn0, rn1, rn2, rn3, rnE⟩
theorem d8d : d8.d = d7 := rfl
theorem tabS8_ok : PTabOk Try.prog (tabS8 d8) := by
  refine addTab_ok ?_ (addTab_ok ?_ (addTab_ok ?_ tab7_ok))
  · intro args c v h hc
    unfold hOf at h; split at h
    · cases h; exact N3.of_pure _
    · cases h
  · intro args c v h hc
    unfold hRb at h; split at h
    · cases h; exact N3.right_pure _
    · cases h
  · intro args c v h hc
    unfold hBn at h; split at h
    · cases h; exact N3.nat_pure hc
    · cases h
theorem orc8_ok {T : PTab} (hT : PTabOk Try.prog T) : OracleOk Try.prog (orc8 d8 T) := inl_ok (hOrcP_ok hTab7_ok) ftab_ok hT plainL_ok mixed 20
theorem bn_ok {s : Int} {W : Nat} (hs : N3.rightB s = true) (h0 : 0 < W) (h1 : W ≤ 2 ^ 117) : bnE s (W : Int) = 0 ∧ (∃ v : Nat, N3.natV s (W : Int) = v ∧ v < W) ∧ N3.rightB (N3.natS s (W : Int)) = true := by
  have l : (W : Int) ≤ 1329227995784915872903807060280344576 := by omega
  have e := N3.natBz_ok hs (show (1 : Int) ≤ (W : Int) by omega) l
  have hv := N3.natV_lt hs (show (1 : Int) ≤ (W : Int) by omega) l
  have hd := (N3.natD_in hs (show (1 : Int) ≤ (W : Int) by omega) l).1
  refine ⟨by unfold bnE; rw [e]; rfl, ⟨(N3.natV s (W : Int)).toNat, by omega, by omega⟩, ?_⟩
  unfold N3.natS
  rw [e, cond_false]
  exact hd
theorem rnd_p {s a b c d : Int} (h : in4 a b c d = true) : FnPure Try.prog 24 [.int .i64 s, q4 a b c d] (.tuple [.int .i64 (rnS s a b c d), q4 (rn0 s a b c d) (rn1 s a b c d) (rn2 s a b c d) (rn3 s a b c d), .int .i64 (rnE s a b c d)]) := by
  obtain ⟨a, b, c, d, rfl, rfl, rfl, rfl, ha, hb, hc, hd⟩ := in4_nat h
  refine fnPure_of_eval (N := 100) (orc8_ok tabS8_ok) mixed Try.func24 (by kernel_rfl) noLoops_ok ?_ rfl rfl
  refine (rnd_eval d8 s (DQ.n a b c d)).trans ?_
  have hU : d8.d.U (DQ.n a b c d) = true := (U_is _).trans h
  unfold rnS rn0 rn1 rn2 rn3 rnE rnB
  rw [show d8.rb s = N3.rightB s from rfl, hU]
  cases hs : N3.rightB s with
  | false => rfl
  | true =>
    cases hp : parB (a : Int) (b : Int) (c : Int) (d : Int) with
    | false =>
      have hl : d7.Le (DQ.n a b c d) = 60 := by
        show leI (a : Int) (b : Int) (c : Int) (d : Int) = 60
        unfold leI; rw [hp]; rfl
      rw [d8d, hl]
      rfl
    | true =>
      have P := parB_iff.1 hp
      have hW : wyI (a : Int) (b : Int) (c : Int) (d : Int) = ((wy (lks a b c d) : Nat) : Int) := wy_n P
      have hwl := wy_lk a b c d
      obtain ⟨b1, ⟨v, b2, b3⟩, _⟩ := bn_ok (W := wy (lks a b c d)) hs (wy_pos _) hwl
      obtain ⟨g0, g1, g2, g3, _, _, _, _, E⟩ := cp_ok P b3
      obtain ⟨c1, c2⟩ := cpI_n P b3 E
      rw [d8d, le_n P, d7n, wy_n P, ii, qq (by omega), show d8.be = bnE from rfl, show d8.bv = N3.natV from rfl, show d8.bs = N3.natS from rfl, b1, b2, ii, qq (by omega), c2, hW, b2]
      rfl
theorem tab8_ok : PTabOk Try.prog (tab8 d8) := by
  refine addTab_ok ?_ tabS8_ok
  intro args c v h hc
  unfold hRn at h; split at h
  · cases h; exact rnd_p hc
  · cases h
theorem rn_n {s : Int} {a b c d : Nat} (hs : N3.rightB s = true) (P : PartD a b c d) {x y z w v : Nat} (hv : N3.natV s ((wy (lks a b c d) : Nat) : Int) = v) (hl : v < wy (lks a b c d)) (E : cpG a b c d v = (x, y, z, w)) :
    d8.Rq s (DQ.n a b c d) = DQ.n x y z w ∧ d8.Re s (DQ.n a b c d) = 0 ∧ d8.Rs s (DQ.n a b c d) = N3.natS s ((wy (lks a b c d) : Nat) : Int) := by
  obtain ⟨c1, _⟩ := cpI_n P hl E
  have hB : rnB s (a : Int) (b : Int) (c : Int) (d : Int) = true := by unfold rnB; rw [hs, parB_iff.2 P]; rfl
  have hW : wyI (a : Int) (b : Int) (c : Int) (d : Int) = ((wy (lks a b c d) : Nat) : Int) := wy_n P
  refine ⟨?_, ?_, ?_⟩
  · show (⟨rn0 s (a : Int) b c d, rn1 s (a : Int) b c d, rn2 s (a : Int) b c d, rn3 s (a : Int) b c d⟩ : DQ) = _
    unfold rn0 rn1 rn2 rn3
    rw [hB, hW, hv]
    exact c1
  · show rnE s (a : Int) b c d = 0
    unfold rnE; rw [hs, parB_iff.2 P]; rfl
  · show rnS s (a : Int) b c d = _
    unfold rnS; rw [hB, hW]; rfl
theorem drawn_true (nn : Bool) {ls : List Int} (hv : okV ls) {w : Int} (hw : 0 ≤ w ∧ w < 18446744073709551616) (n : Int) :
    evalFn Try.prog (orc8 d8 (tab8 d8)) noLoops 100 8 Try.f8 [.gs 0, .int .u64 w, .int .i64 n] [.rs nn 1 (.ints .u8 ls)] (fun v _ => some v) = some (.bool true) := by
  refine (drawn_eval d8 nn ls w n).trans ?_
  obtain ⟨p0, p1, p2, p3, hP, PD, _⟩ := torn (ls := ls) hw
  have hs : N3.rightB (N3.ofI n) = true := N3.ofI_right n
  have hwl := wy_lk p0 p1 p2 p3
  obtain ⟨b1, ⟨v, b2, b3⟩, b4⟩ := bn_ok (s := N3.ofI n) (W := wy (lks p0 p1 p2 p3)) hs (wy_pos _) hwl
  obtain ⟨g0, g1, g2, g3, _, G, C, I, E⟩ := cp_ok PD b3
  have RX := PD.comp G C
  obtain ⟨r1, r2, r3⟩ := rn_n hs PD b2 b3 E
  obtain ⟨V1, V2⟩ := ixI_n PD RX ⟨sub_or _ _, sub_or _ _, sub_or _ _, sub_or _ _⟩
  rw [ix_of PD G, I] at V1
  -- a right deal: one completion
  obtain ⟨q1, ⟨u, q2, q3⟩, _⟩ := bn_ok (s := N3.ofI n) (W := wy (lks (p0 ||| g0) (p1 ||| g1) (p2 ||| g2) (p3 ||| g3))) hs (wy_pos _) (wy_lk _ _ _ _)
  have hu : u = 0 := by rw [wy_right RX] at q3; omega
  subst hu
  obtain ⟨y1, y2, _⟩ := rn_n hs RX.toPartD q2 q3 (cp_right RX)
  rw [d8d, show d7.ok ls = true from pB_iff.2 hv, hP, in4_n PD, cond_true, cond_true, cond_true, show d8.of n = N3.ofI n from rfl, r1, r3, wy_n PD]
  unfold dr1
  have hA : decide (N3.natS (N3.ofI n) ((wy (lks p0 p1 p2 p3) : Nat) : Int) = N3.natS (N3.ofI n) ((wy (lks p0 p1 p2 p3) : Nat) : Int)) = true := decide_eq_true rfl
  have a0 : anI (DQ.n p0 p1 p2 p3).a (DQ.n (p0 ||| g0) (p1 ||| g1) (p2 ||| g2) (p3 ||| g3)).a = 0 := anI_sub PD.la RX.la (sub_or _ _)
  have a1 : anI (DQ.n p0 p1 p2 p3).b (DQ.n (p0 ||| g0) (p1 ||| g1) (p2 ||| g2) (p3 ||| g3)).b = 0 := anI_sub PD.lb RX.lb (sub_or _ _)
  have a2 : anI (DQ.n p0 p1 p2 p3).c (DQ.n (p0 ||| g0) (p1 ||| g1) (p2 ||| g2) (p3 ||| g3)).c = 0 := anI_sub PD.lc RX.lc (sub_or _ _)
  have a3 : anI (DQ.n p0 p1 p2 p3).d (DQ.n (p0 ||| g0) (p1 ||| g1) (p2 ||| g2) (p3 ||| g3)).d = 0 := anI_sub PD.ld RX.ld (sub_or _ _)
  rw [r2, y1, y2, d8d, d7n, in4_n PD, in4_n RX.toPartD, rg_n RX, eqQ_refl, show d8.rb = N3.rightB from rfl, b4, a0, a1, a2, a3, ii, qq (by omega), show d8.be = bnE from rfl, show d8.bs = N3.natS from rfl, show d8.bv = N3.natV from rfl, b1, V1, V2, b2, eqW_refl, hA]
  rfl
end Go.Proofs.Ytpalajfcffdhoaa
