/- Texts merged: Z5, Dm8, Z6. -/
import Derived.Test.YtpalajfcffdhoaaGreatDoorZ4
import Derived.Test.YtpalajfcffdhoaaGreatDoorIndP
/- Chapter 6, the reference: Complete: its formula and its contract. -/
namespace Go.Proofs.YtpalajfcffdhoaaGreatDoor
open Go Go.Eng Go.Deal
section
variable (E : EC) (C : Int → Int → Int → Int → Int → Int → Int → List Int → Bool) (G : Int → Int → Int → List Int → Int)
noncomputable def coS (s x a b c d z : Int) (iz : Bool) (K : Int → Int → Option V) : Option V :=
  bif E.u4 a b c d then bif E.n.u x then bif E.otk s a b c d then bif iz && E.n.i (E.ot s a b c d) then bif E.n.i (E.n.quo z (E.n.q (E.ot s a b c d))) then
    cond (codesB [(cmLp, cmLp)]) (bif C (wr .i64 (13 - E.ma x)) (E.iz (E.n.q (E.n.quo z (E.n.q (E.ot s a b c d))))) (wr .i64 (Int.ofNat (E.cd a b c d).length - 1)) a b c d (E.cd a b c d) then
      K (G (wr .i64 (13 - E.ma x)) (E.iz (E.n.q (E.n.quo z (E.n.q (E.ot s a b c d))))) x (E.cd a b c d)) (E.n.rem z (E.n.q (E.ot s a b c d))) else none) none else none else none else none else none else none
def zero4R : V := .agg [.int .u64 0, .int .u64 0, .int .u64 0, .int .u64 0]
theorem rcpl_eval (a b c d e f g h : Int) : evalFn Tryz.prog (orcC6 E) (cmL C G) 100 7 Tryz.f7 [q4 a b c d, .agg [.int .u32 e, .int .u32 f, .int .u32 g, .int .u32 h]] [] (fun v _ => some v) =
    bif E.u4 a b c d then bif !decide (E.le a b c d = 0) then some (.tuple [zero4R, .int .i64 (E.le a b c d)]) else
    bif E.n.inn e f g h && E.n.i (E.wy a b c d) then bif decide (0 ≤ E.n.cmp (E.n.z e f g h) (E.n.q (E.wy a b c d))) then some (.tuple [zero4R, .int .i64 6]) else
      coS E C G 0 a a b c d (E.n.z e f g h) (E.n.inn e f g h) fun a r => coS E C G 1 b a b c d (E.n.q r) (E.n.i r) fun b r => coS E C G 2 c a b c d (E.n.q r) (E.n.i r) fun c r => coS E C G 3 d a b c d (E.n.q r) (E.n.i r) fun d _ => some (.tuple [q4 a b c d, .int .i64 0])
    else none else none := by kernel_rfl
end
end Go.Proofs.YtpalajfcffdhoaaGreatDoor

/- Chapter 6, plainly: Complete and Index are the opposite of one another; their order. -/
namespace Go.Proofs.YtpalajfcffdhoaaGreatDoor
open Go Go.Eng Go.Deal
theorem cp_ok {a b c d n : Nat} (h : PartD a b c d) (hn : n < wy (lks a b c d)) : ∃ g0 g1 g2 g3 : Nat, comp (lks a b c d) (lf a b c d) n = [g0, g1, g2, g3] ∧ Deal.Good [g0, g1, g2, g3] (lf a b c d) ∧ cs [g0, g1, g2, g3] = lks a b c d ∧
    idx [g0, g1, g2, g3] (lf a b c d) = n ∧ cpG a b c d n = (a ||| g0, b ||| g1, c ||| g2, d ||| g3) := by
  obtain ⟨A, B, C⟩ := comp_ok h.lf_cnt hn
  have e : ∃ g0 g1 g2 g3 : Nat, comp (lks a b c d) (lf a b c d) n = [g0, g1, g2, g3] := ⟨_, _, _, _, rfl⟩
  obtain ⟨g0, g1, g2, g3, e⟩ := e
  rw [e] at A B C
  refine ⟨g0, g1, g2, g3, e, A, B, C, ?_⟩
  unfold cpG
  rw [e]
end Go.Proofs.YtpalajfcffdhoaaGreatDoor

/- Chapter 6, the reference: Complete's contract. -/
namespace Go.Proofs.YtpalajfcffdhoaaGreatDoor
open Go Go.Eng Go.Deal
theorem in4P {a b c d : Nat} (h : PartD a b c d) : in4 (a : Int) (b : Int) (c : Int) (d : Int) = true := by
  have ha := lt64 h.la; have hb := lt64 h.lb; have hc := lt64 h.lc; have hd := lt64 h.ld
  have e : ∀ x : Nat, x < 18446744073709551616 → in64 (x : Int) = true := fun x hx => in64_iff.2 ⟨by omega, by omega⟩
  unfold in4
  rw [e a ha, e b hb, e c hc, e d hd]
  rfl
theorem cdI_n (a b c d : Nat) : cdI (a : Int) (b : Int) (c : Int) (d : Int) = cl (lf a b c d) 52 := by
  unfold cdI; rw [Int.toNat_natCast, Int.toNat_natCast, Int.toNat_natCast, Int.toNat_natCast]
theorem eCu4 (a b c d : Int) : eC.u4 a b c d = in4 a b c d := rfl
theorem eCotk (s a b c d : Int) : eC.otk s a b c d = otK s a b c d := rfl
theorem eCot (s a b c d : Int) : eC.ot s a b c d = othI s a b c d := rfl
theorem eCcd (a b c d : Int) : eC.cd a b c d = cdI a b c d := rfl
theorem eCma (x : Int) : eC.ma x = maI x := rfl
theorem eCiz (x : Int) : eC.iz x = N2.intZ x := rfl
theorem eCu (x : Int) : eC.n.u x = in64 x := rfl
theorem eCu_n {x : Nat} (hx : x < 18446744073709551616) : eC.n.u (x : Int) = true := by rw [eCu]; exact in64_iff.2 ⟨by omega, by omega⟩
theorem intZ_n {x : Nat} (h : x < 9223372036854775808) : N2.intZ (x : Int) = (x : Int) := by unfold N2.intZ; rw [decide_eq_true (by omega)]; rfl
theorem otK_n {s : Int} (hs : s = 0 ∨ s = 1 ∨ s = 2 ∨ s = 3) {a b c d : Nat} (P : PartD a b c d) : otK s (a : Int) (b : Int) (c : Int) (d : Int) = true := by
  unfold otK; rw [in4P P, parB_iff.2 P, decide_eq_true hs]; rfl
theorem wlkC {x : Nat} (h : cnt x 52 ≤ 13) : wr .i64 (13 - maI (x : Int)) = ((lk x : Nat) : Int) := by
  unfold lk
  rw [maI_n, wr64 (by omega) (by omega)]; omega
theorem coS_ok {s : Int} (hs : s = 0 ∨ s = 1 ∨ s = 2 ∨ s = 3) {X a b c d z W : Nat} (P : PartD a b c d) (hX : X < 2 ^ 52) (hc : cnt X 52 ≤ 13) (hd : Dis X (lf a b c d)) (hw : othI s (a : Int) (b : Int) (c : Int) (d : Int) = (W : Int)) (hW : 0 < W) (hW2 : W < 340282366920938463463374607431768211456)
    (hz : z < 340282366920938463463374607431768211456) (hr : z / W < bc (cnt (lf a b c d) 52) (lk X)) {iz : Bool} (hi : iz = true) (K : Int → Int → Option V) :
    coS eC cmC cmG s (X : Int) (a : Int) (b : Int) (c : Int) (d : Int) (z : Int) iz K = K ((X ||| pick (lf a b c d) 52 (lk X) (z / W) : Nat) : Int) ((z % W : Nat) : Int) := by
  have hb := bc_52 (n := cnt (lf a b c d) 52) (k := lk X) (cnt_le _ _)
  have hq : z / W ≤ z := Nat.div_le_self z W
  have hP := P.la; have hQ := P.lb; have hR := P.lc; have hS := P.ld
  have h52 : (2 : Nat) ^ 52 = 4503599627370496 := by decide
  have hl := lk_le X
  unfold coS
  rw [eCu4, in4P P, cond_true, eCu_n (lt64 hX), cond_true, eCotk, otK_n hs P, cond_true, hi, eCn, eCot, hw, ii, Bool.and_true, cond_true, qq hW2, quoq hW, remq hW, ii, cond_true, codesD, cond_true]
  generalize z / W = r at *
  rw [qq (by omega), eCiz, intZ_n (by omega), eCma, wlkC hc, eCcd, cdI_n]
  have hC : cmC ((lk X : Nat) : Int) (r : Int) (wr .i64 (Int.ofNat (cl (lf a b c d) 52).length - 1)) (a : Int) (b : Int) (c : Int) (d : Int) (cl (lf a b c d) 52) = true := by
    have h1 := cl_len (lf a b c d) 52
    have h2 := cnt_le (lf a b c d) 52
    unfold cmC
    rw [cdI_n, decide_eq_true (rfl : cl (lf a b c d) 52 = cl (lf a b c d) 52), Bool.and_true, Bool.and_eq_true, decide_eq_true_eq, decide_eq_true_eq]
    refine ⟨⟨by omega, by omega, ?_⟩, by omega, by omega, by omega, by omega⟩
    rw [show Int.ofNat (cl (lf a b c d) 52).length = ((cl (lf a b c d) 52).length : Int) from rfl, wr64 (by omega) (by omega)]
  have hG : cmG ((lk X : Nat) : Int) (r : Int) (X : Int) (cl (lf a b c d) 52) = ((X ||| pick (lf a b c d) 52 (lk X) r : Nat) : Int) := by
    unfold cmG
    rw [cl_back, Int.toNat_natCast, Int.toNat_natCast, pkR_pick, or_add (hd.sub (Sub.refl X) (pick_sub _ _ _ _)), Int.natCast_add]
  rw [hC, cond_true, hG]
theorem lf_or (a b c d g : Nat) : lf (a ||| g) b c d = nd (lf a b c d) g ∧ lf a (b ||| g) c d = nd (lf a b c d) g ∧ lf a b (c ||| g) d = nd (lf a b c d) g ∧ lf a b c (d ||| g) = nd (lf a b c d) g := by
  refine ⟨?_, ?_, ?_, ?_⟩ <;>
  · refine Nat.eq_of_testBit_eq fun i => ?_
    unfold lf
    rw [nd_bit, nd_bit, nd_bit, al_bit, un_bit, un_bit, Nat.testBit_or]
    cases a.testBit i <;> cases b.testBit i <;> cases c.testBit i <;> cases d.testBit i <;> cases g.testBit i <;> simp
theorem rcpl_p {a b c d e f g h : Int} (h4 : in4 a b c d = true) (hi : N2.inN e f g h = true) : FnPure Tryz.prog 7 [q4 a b c d, .agg [.int .u32 e, .int .u32 f, .int .u32 g, .int .u32 h]]
    (.tuple [q4 (cp0 a b c d (N2.nval e f g h)) (cp1 a b c d (N2.nval e f g h)) (cp2 a b c d (N2.nval e f g h)) (cp3 a b c d (N2.nval e f g h)), .int .i64 (cpE a b c d (N2.nval e f g h))]) := by
  have h44 := h4
  obtain ⟨a, b, c, d, rfl, rfl, rfl, rfl, ha, hb, hc, hd⟩ := in4_nat h4
  refine fnPure_of_eval (N := 100) orcC6_ok mixed Tryz.func7 (by kernel_rfl) cmL_ok ?_ rfl rfl
  obtain ⟨n, hn, hn2⟩ := nat_n hi
  refine (rcpl_eval eC cmC cmG _ _ _ _ _ _ _ _).trans ?_
  rw [eCu4, h44, cond_true, eCn, show n6.inn e f g h = true from hi, show n6.z e f g h = N2.nval e f g h from rfl, hn, show eC.le (a : Int) (b : Int) (c : Int) (d : Int) = leI (a : Int) (b : Int) (c : Int) (d : Int) from rfl, show eC.wy (a : Int) (b : Int) (c : Int) (d : Int) = wyI (a : Int) (b : Int) (c : Int) (d : Int) from rfl, ii]
  unfold cp0 cp1 cp2 cp3 cpE cpB leI wyI
  cases hp : parB (a : Int) (b : Int) (c : Int) (d : Int) with
  | false => rfl
  | true =>
    have P := parB_iff.1 hp
    have ho0 : o0 (a : Int) (b : Int) (c : Int) (d : Int) = ((wy (lks a b c d) : Nat) : Int) := rfl
    obtain ⟨f0, f1, f2, f3⟩ := wy_four (a := lk a) (b := lk b) (c := lk c) (d := lk d) (lk_le a) (lk_le b) (lk_le c) (lk_le d)
    have f0' : wy (lks a b c d) ≤ 2 ^ 117 := f0
    rw [ho0, cond_true, cond_true, qq (Nat.lt_of_le_of_lt f0' (by decide))]
    have hcm : decide (0 ≤ n6.cmp (n : Int) ((wy (lks a b c d) : Nat) : Int)) = !decide (n < wy (lks a b c d)) := by
      rw [← cmpq]
      by_cases q : n6.cmp (n : Int) ((wy (lks a b c d) : Nat) : Int) < 0
      · rw [decide_eq_true q, decide_eq_false (by omega)]; rfl
      · rw [decide_eq_false q, decide_eq_true (by omega)]; rfl
    rw [hcm, show (!decide ((0 : Int) = 0)) = false from rfl, cond_false, Bool.and_self, cond_true]
    by_cases hlt : n < wy (lks a b c d)
    · rw [decide_eq_true hlt, decide_eq_true (show (n : Int) < ((wy (lks a b c d) : Nat) : Int) by omega), Bool.not_true, cond_false]
      obtain ⟨g0, g1, g2, g3, eC0, hG, hcs, _, hcp⟩ := cp_ok P hlt
      have R := P.comp hG hcs
      obtain ⟨s0, l0, s1, l1, s2, l2, s3, l3, _⟩ := hG
      simp only [cs, lks, List.cons.injEq, and_true] at hcs
      obtain ⟨k0, k1, k2, k3⟩ := hcs
      have hlt' : n < bc (lk a + sm [lk b, lk c, lk d]) (lk a) * wy [lk b, lk c, lk d] := hlt
      have hL0 : cnt (lf a b c d) 52 = lk a + sm [lk b, lk c, lk d] := P.lf_cnt
      have q0 : n / wy [lk b, lk c, lk d] < bc (cnt (lf a b c d) 52) (lk a) := by rw [hL0]; exact Nat.div_lt_of_lt_mul (by rw [Nat.mul_comm]; exact hlt')
      have C0 := cnt_nd s0 52
      rw [k0] at C0
      simp only [comp, lks, List.cons.injEq, and_true] at eC0
      obtain ⟨E0, E1, E2, E3⟩ := eC0
      obtain ⟨D0, D1, D2, D3⟩ := P.lf_dis (Sub.refl _)
      rw [coS_ok (s := 0) (.inl rfl) P P.la P.ca D0 (W := wy [lk b, lk c, lk d]) rfl (wy_pos _) (by omega) hn2 q0 rfl]
      rw [E0] at E1 E2 E3 ⊢
      have n1 : n % wy [lk b, lk c, lk d] < wy [lk b, lk c, lk d] := Nat.mod_lt _ (wy_pos _)
      generalize hz1 : n % wy [lk b, lk c, lk d] = z1 at *
      have P1 : PartD (a ||| g0) b c d := R.toPartD.sub (Sub.refl _) (sub_or _ _) (sub_or _ _) (sub_or _ _)
      have L1 := (lf_or a b c d g0).1
      have hc1 : cnt (nd (lf a b c d) g0) 52 = lk b + sm [lk c, lk d] := by simp only [sm] at hL0 ⊢; omega
      have q1 : z1 / wy [lk c, lk d] < bc (cnt (lf (a ||| g0) b c d) 52) (lk b) := by rw [L1, hc1]; exact Nat.div_lt_of_lt_mul (by rw [Nat.mul_comm]; exact n1)
      obtain ⟨_, D1, _, _⟩ := P1.lf_dis (Sub.refl _)
      rw [qq (by omega), coS_ok (s := 1) (.inr (.inl rfl)) P1 P.lb P.cb D1 (W := wy [lk c, lk d]) rfl (wy_pos _) (by omega) (by omega) q1 (ii _), L1, E1]
      have C1 := cnt_nd s1 52
      rw [k1] at C1
      have n2 : z1 % wy [lk c, lk d] < wy [lk c, lk d] := Nat.mod_lt _ (wy_pos _)
      generalize hz2 : z1 % wy [lk c, lk d] = z2 at *
      have P2 : PartD (a ||| g0) (b ||| g1) c d := R.toPartD.sub (Sub.refl _) (Sub.refl _) (sub_or _ _) (sub_or _ _)
      have L2 := (lf_or (a ||| g0) b c d g1).2.1
      rw [L1] at L2
      rw [E1] at E2 E3
      have hc2 : cnt (nd (nd (lf a b c d) g0) g1) 52 = lk c + sm [lk d] := by simp only [sm] at hc1 ⊢; omega
      have q2 : z2 / 1 < bc (cnt (lf (a ||| g0) (b ||| g1) c d) 52) (lk c) := by
        rw [L2, hc2, ← f3]; exact Nat.div_lt_of_lt_mul (by rw [Nat.mul_comm]; exact n2)
      obtain ⟨_, _, D2, _⟩ := P2.lf_dis (Sub.refl _)
      rw [qq (by omega), coS_ok (s := 2) (.inr (.inr (.inl rfl))) P2 P.lc P.cc D2 (W := 1) rfl (by decide) (by decide) (by omega) q2 (ii _), L2]
      have E2' : pick (nd (nd (lf a b c d) g0) g1) 52 (lk c) (z2 / 1) = g2 := by rw [← E2, f3]
      rw [E2']
      have C2 := cnt_nd s2 52
      rw [k2] at C2
      have P3 : PartD (a ||| g0) (b ||| g1) (c ||| g2) d := R.toPartD.sub (Sub.refl _) (Sub.refl _) (Sub.refl _) (sub_or _ _)
      have L3 := (lf_or (a ||| g0) (b ||| g1) c d g2).2.2.1
      rw [L2] at L3
      have hz30 : z2 % 1 = 0 := Nat.mod_one _
      have hc3 : cnt (nd (nd (nd (lf a b c d) g0) g1) g2) 52 = lk d := by simp only [sm] at hc2; omega
      have q3 : z2 % 1 / 1 < bc (cnt (lf (a ||| g0) (b ||| g1) (c ||| g2) d) 52) (lk d) := by rw [L3, hc3, bc_self, hz30]; decide
      obtain ⟨_, _, _, D3⟩ := P3.lf_dis (Sub.refl _)
      rw [qq (by omega), coS_ok (s := 3) (.inr (.inr (.inr rfl))) P3 P.ld P.cd D3 (W := 1) rfl (by decide) (by decide) (by omega) q3 (ii _), L3]
      have E3' : pick (nd (nd (nd (lf a b c d) g0) g1) g2) 52 (lk d) (z2 % 1 / 1) = g3 := by
        rw [← E3, f3, E2', hz30]
        rfl
      rw [E3', Int.toNat_natCast, Int.toNat_natCast, Int.toNat_natCast, Int.toNat_natCast, Int.toNat_natCast, hcp]
      rfl
    · rw [decide_eq_false hlt, decide_eq_false (show ¬ (n : Int) < ((wy (lks a b c d) : Nat) : Int) by omega)]
      rfl
end Go.Proofs.YtpalajfcffdhoaaGreatDoor
