/- Texts merged: Z9, Z10. -/
import Derived.Test.YtpalajfcffdhoaaGreatDoorZ7
/- Chapter 6, the reference: Index: its formula. -/
namespace Go.Proofs.YtpalajfcffdhoaaGreatDoor
open Go Go.Eng Go.Deal
abbrev B8 := Int → Int → Int → Int → Int → Int → Int → Int → Bool
section
variable (E : EC) (C1 : Int → B8) (QB : B8) (C2 : Int → Int → Int → B8) (CL : Int → Int → Int → Int → List Int → Bool) (R : Int → List Int → Int → Int) (G : Int → Int → List Int → Int → Int)
noncomputable def ckTr : List PV → Fin
  | [.i e, .i k, .i a, .i b, .i c, .i d, .i x, .i y, .i z, .i w, .i r0, .i r1, .i r2, .i r3] => .br (C1 k a b c d x y z w) (.br (QB a b c d x y z w) (.leaf (.exit 0) (ckX.at (.i e :: ckw a b c d x y z w r0 r1 r2 r3))) (.leaf .ret (ckX.at (.i 6 :: ckw a b c d x y z w 0 0 0 0)))) .no
  | _ => .no
noncomputable def ixTr : List PV → Fin
  | [.i s, .i k, .i ow, .i i, .i a, .i b, .i c, .i d, .i x, .i y, .i z, .i w, .i r0, .i r1, .i r2, .i r3, .i o0, .i o1, .i o2, .i o3, .l l, .i a0, .i a1, .i a2, .i a3] => .br (C2 k ow (i - Int.ofNat l.length) a b c d x y z w && CL a b c d l)
      (.br (decide (s = 0)) (.leaf (.exit 6) (ixX.at (ixx 0 (R k l x) (G k a l x) b c d ⟨r0, r1, r2, r3, o0, o1, o2, o3, a0, a1, a2, a3, x, y, z, w⟩))) (.br (decide (s = 1)) (.leaf (.exit 6) (ixX.at (ixx 1 (R k l y) a (G k b l y) c d ⟨r0, r1, r2, r3, o0, o1, o2, o3, a0, a1, a2, a3, x, y, z, w⟩)))
        (.br (decide (s = 2)) (.leaf (.exit 6) (ixX.at (ixx 2 (R k l z) a b (G k c l z) d ⟨r0, r1, r2, r3, o0, o1, o2, o3, a0, a1, a2, a3, x, y, z, w⟩))) (.br (decide (s = 3)) (.leaf (.exit 6) (ixX.at (ixx 3 (R k l w) a b c (G k d l w) ⟨r0, r1, r2, r3, o0, o1, o2, o3, a0, a1, a2, a3, x, y, z, w⟩))) .no)))) .no
  | _ => .no
noncomputable def ixL : Loops := sums (fun n => match n with
  | 4 => some (lsumF 0 ckT ckLp (ckTr C1 QB))
  | 20 => some (lsumF 0 ixT ixLp (ixTr C2 CL R G))
  | _ => none)
def n6V (z : Int) : V := .tuple [.agg [.int .u32 0, .int .u32 0, .int .u32 0, .int .u32 0], .int .i64 z]
noncomputable def ixZ (s h a b c d x y z w p : Int) (o : Int) (io : Bool) (K : Int → Int → Option V) : Option V :=
  bif E.u4 a b c d then bif E.n.u p then bif E.otk s a b c d then cond (codesB [(ixLp, ixLp)]) (bif C2 (wr .i64 (13 - E.ma p)) 0 (wr .i64 (Int.ofNat (E.cd a b c d).length - 1) - Int.ofNat (E.cd a b c d).length) a b c d x y z w && CL a b c d (E.cd a b c d) then
    bif E.ofk (R (wr .i64 (13 - E.ma p)) (E.cd a b c d) h) then bif E.n.i (E.of (R (wr .i64 (13 - E.ma p)) (E.cd a b c d) h)) && E.n.i (E.ot s a b c d) then
      bif io && E.n.i (E.n.mul (E.n.q (E.of (R (wr .i64 (13 - E.ma p)) (E.cd a b c d) h))) (E.n.q (E.ot s a b c d))) then
        K (G (wr .i64 (13 - E.ma p)) p (E.cd a b c d) h) (E.n.add o (E.n.q (E.n.mul (E.n.q (E.of (R (wr .i64 (13 - E.ma p)) (E.cd a b c d) h))) (E.n.q (E.ot s a b c d)))))
      else none else none else none else none) none else none else none else none
theorem rix_eval (a b c d x y z w : Int) : evalFn Tryz.prog (orcC6 E) (ixL C1 QB C2 CL R G) 100 36 Tryz.f36 [q4 a b c d, q4 x y z w] [] (fun v _ => some v) =
    bif E.u4 a b c d then bif !E.pb a b c d then some (n6V 60) else bif E.u4 x y z w then bif !E.rg x y z w then some (n6V 60) else
    cond (codesB [(ckLp, ckLp)]) (bif C1 0 a b c d x y z w then bif QB a b c d x y z w then
      ixZ E C2 CL R G 0 x a b c d x y z w a (E.n.z 0 0 0 0) (E.n.inn 0 0 0 0) fun a o => ixZ E C2 CL R G 1 y a b c d x y z w b (E.n.q o) (E.n.i o) fun b o => ixZ E C2 CL R G 2 z a b c d x y z w c (E.n.q o) (E.n.i o) fun c o => ixZ E C2 CL R G 3 w a b c d x y z w d (E.n.q o) (E.n.i o) fun _ o =>
        some (.tuple [E.n.nW o, .int .i64 0])
    else some (n6V 6) else none) none else none else none := by kernel_rfl
end
end Go.Proofs.YtpalajfcffdhoaaGreatDoor

/- Chapter 6, the reference: Index's contract. -/
namespace Go.Proofs.YtpalajfcffdhoaaGreatDoor
open Go Go.Eng Go.Deal
def lt8 (a b c d x y z w : Int) : Bool := decide ((0 ≤ a ∧ a < 4503599627370496) ∧ (0 ≤ b ∧ b < 4503599627370496) ∧ (0 ≤ c ∧ c < 4503599627370496) ∧ (0 ≤ d ∧ d < 4503599627370496) ∧ (0 ≤ x ∧ x < 4503599627370496) ∧ (0 ≤ y ∧ y < 4503599627370496) ∧ (0 ≤ z ∧ z < 4503599627370496) ∧ (0 ≤ w ∧ w < 4503599627370496))
theorem lt8_nat {a b c d x y z w : Int} (h : lt8 a b c d x y z w = true) : ∃ q : Q8, q.Lt ∧ a = q.a ∧ b = q.b ∧ c = q.c ∧ d = q.d ∧ x = q.x ∧ y = q.y ∧ z = q.z ∧ w = q.w := by
  unfold lt8 at h
  rw [decide_eq_true_eq] at h
  have h52 : (2 : Nat) ^ 52 = 4503599627370496 := by decide
  exact ⟨⟨a.toNat, b.toNat, c.toNat, d.toNat, x.toNat, y.toNat, z.toNat, w.toNat⟩, ⟨by dsimp only; omega, by dsimp only; omega, by dsimp only; omega, by dsimp only; omega, by dsimp only; omega, by dsimp only; omega, by dsimp only; omega, by dsimp only; omega⟩,
    by dsimp only; omega, by dsimp only; omega, by dsimp only; omega, by dsimp only; omega, by dsimp only; omega, by dsimp only; omega, by dsimp only; omega, by dsimp only; omega⟩
def c16a (k a b c d x y z w : Int) : Bool := decide (k = 0) && lt8 a b c d x y z w
def c16b (k ow i a b c d x y z w : Int) : Bool := decide ((0 ≤ k ∧ k ≤ 13) ∧ ow = 0 ∧ i = -1) && lt8 a b c d x y z w
def c16l (a b c d : Int) (l : List Int) : Bool := decide (l = cdI a b c d)
def rkI (k : Int) (l : List Int) (h : Int) : Int := ((rkR h.toNat (l.reverse.map Int.toNat) k.toNat : Nat) : Int)
def gpI (k g : Int) (l : List Int) (h : Int) : Int := g + ((gpR h.toNat (l.reverse.map Int.toNat) k.toNat : Nat) : Int)
theorem ix_bd {m h : Nat} (k g : Nat) (hg : g < 2 ^ 52) : 0 + rkR h (dls m 52) k < 4611686018427387904 ∧ g + gpR h (dls m 52) k < 9223372036854775808 := by
  have h1 := dls_len m 52
  have h2 := cnt_le m 52
  have h3 := rkR_le h (dls m 52) k (by omega)
  have h4 := gpR_le h (dls m 52) k (fun p hp => (dls_lt m 52 p hp).1)
  have h52 : (2 : Nat) ^ 52 = 4503599627370496 := by decide
  have h5 : (dls m 52).length * 4503599627370497 ≤ 52 * 4503599627370497 := Nat.mul_le_mul_right _ (by omega)
  have h6 : (dls m 52).length * 4503599627370496 ≤ 52 * 4503599627370496 := Nat.mul_le_mul_right _ (by omega)
  omega
theorem rkI_n (k m h : Nat) : rkI (k : Int) (cl m 52) (h : Int) = ((rkR h (dls m 52) k : Nat) : Int) := by unfold rkI; rw [cl_back, Int.toNat_natCast, Int.toNat_natCast]
theorem gpI_n (k g m h : Nat) : gpI (k : Int) (g : Int) (cl m 52) (h : Int) = ((g + gpR h (dls m 52) k : Nat) : Int) := by unfold gpI; rw [cl_back, Int.toNat_natCast, Int.toNat_natCast, Int.natCast_add]
theorem ixL_ok : loopsOk Tryz.prog (ixL c16a ixC c16b c16l rkI gpI) := by
  intro n g hg
  simp only [ixL, sums] at hg
  split at hg
  · cases hg
    refine lsumF_ok (by kernel_rfl) (fun rd ps e1 st1 h => ?_)
    unfold ckTr at h
    split at h
    · rename_i e k a b c d x y z w r0 r1 r2 r3
      simp only [Fin.pick] at h
      cases hc : c16a k a b c d x y z w with
      | false => rw [hc] at h; cases h
      | true =>
        rw [hc, cond_true] at h
        unfold c16a at hc
        rw [Bool.and_eq_true, decide_eq_true_eq] at hc
        obtain ⟨rfl, hlt⟩ := hc
        obtain ⟨q, hq, rfl, rfl, rfl, rfl, rfl, rfl, rfl, rfl⟩ := lt8_nat hlt
        have := ck_loop rd q hq e r0 r1 r2 r3 0 ⟨by omega, fun i hi => by omega⟩
        cases hS : ixC q.a q.b q.c q.d q.x q.y q.z q.w with
        | true =>
          rw [hS, cond_true] at h
          cases h
          unfold ckFin at this
          rw [if_pos (ixC_iff.1 hS)] at this
          exact this
        | false =>
          rw [hS, cond_false] at h
          cases h
          unfold ckFin at this
          rw [if_neg (fun g => Bool.eq_false_iff.1 hS (ixC_iff.2 g))] at this
          exact this
    · cases h
  · cases hg
    refine lsumF_ok (by kernel_rfl) (fun rd ps e1 st1 h => ?_)
    unfold ixTr at h
    split at h
    · rename_i s k ow i a b c d x y z w r0 r1 r2 r3 o0 o1 o2 o3 l a0 a1 a2 a3
      simp only [Fin.pick] at h
      cases hc : c16b k ow (i - Int.ofNat l.length) a b c d x y z w && c16l a b c d l with
      | false => rw [hc] at h; cases h
      | true =>
        rw [hc, cond_true] at h
        unfold c16b c16l at hc
        simp only [Bool.and_eq_true, decide_eq_true_eq] at hc
        obtain ⟨⟨⟨⟨k0, k1⟩, rfl, hi⟩, hlt⟩, hl⟩ := hc
        obtain ⟨q, hq, rfl, rfl, rfl, rfl, rfl, rfl, rfl, rfl⟩ := lt8_nat hlt
        obtain ⟨K, rfl⟩ : ∃ x : Nat, k = x := ⟨k.toNat, by omega⟩
        have hK : K ≤ 13 := by omega
        rw [cdI_n] at hl
        subst hl
        have hi' : i = ((dls (lf q.a q.b q.c q.d) 52).length : Int) - 1 := by
          have h1 := cl_len (lf q.a q.b q.c q.d) 52
          have h2 := dls_len (lf q.a q.b q.c q.d) 52
          have h3 : Int.ofNat (cl (lf q.a q.b q.c q.d) 52).length = ((cl (lf q.a q.b q.c q.d) 52).length : Int) := rfl
          omega
        subst hi'
        rw [rkI_n, rkI_n, rkI_n, rkI_n, gpI_n, gpI_n, gpI_n, gpI_n] at h
        by_cases h0 : s = 0
        · subst h0
          rw [decide_eq_true (show (0 : Int) = 0 from rfl), cond_true] at h
          cases h
          have := ix_gen rd (lf q.a q.b q.c q.d) q.x (lt64 hq.x) (fun k ow i g => ixv 0 k ow i g q.b q.c q.d ⟨r0, r1, r2, r3, o0, o1, o2, o3, a0, a1, a2, a3, q.x, q.y, q.z, q.w⟩ (cl (lf q.a q.b q.c q.d) 52))
            (fun ow g => ixx 0 ow g q.b q.c q.d ⟨r0, r1, r2, r3, o0, o1, o2, o3, a0, a1, a2, a3, q.x, q.y, q.z, q.w⟩) (fun k ow i g => ix_0 _ _ _ _ _ _ _ _ _ _ _) (dls (lf q.a q.b q.c q.d) 52, K, 0, q.a) ⟨⟨[], rfl⟩, hK, (ix_bd K _ hq.a).1, (ix_bd K _ hq.a).2⟩
          dsimp only at this
          rw [Nat.zero_add] at this
          exact this
        rw [decide_eq_false h0, cond_false] at h
        by_cases h1 : s = 1
        · subst h1
          rw [decide_eq_true (show (1 : Int) = 1 from rfl), cond_true] at h
          cases h
          have := ix_gen rd (lf q.a q.b q.c q.d) q.y (lt64 hq.y) (fun k ow i g => ixv 1 k ow i q.a g q.c q.d ⟨r0, r1, r2, r3, o0, o1, o2, o3, a0, a1, a2, a3, q.x, q.y, q.z, q.w⟩ (cl (lf q.a q.b q.c q.d) 52))
            (fun ow g => ixx 1 ow q.a g q.c q.d ⟨r0, r1, r2, r3, o0, o1, o2, o3, a0, a1, a2, a3, q.x, q.y, q.z, q.w⟩) (fun k ow i g => ix_1 _ _ _ _ _ _ _ _ _ _ _) (dls (lf q.a q.b q.c q.d) 52, K, 0, q.b) ⟨⟨[], rfl⟩, hK, (ix_bd K _ hq.b).1, (ix_bd K _ hq.b).2⟩
          dsimp only at this
          rw [Nat.zero_add] at this
          exact this
        rw [decide_eq_false h1, cond_false] at h
        by_cases h2 : s = 2
        · subst h2
          rw [decide_eq_true (show (2 : Int) = 2 from rfl), cond_true] at h
          cases h
          have := ix_gen rd (lf q.a q.b q.c q.d) q.z (lt64 hq.z) (fun k ow i g => ixv 2 k ow i q.a q.b g q.d ⟨r0, r1, r2, r3, o0, o1, o2, o3, a0, a1, a2, a3, q.x, q.y, q.z, q.w⟩ (cl (lf q.a q.b q.c q.d) 52))
            (fun ow g => ixx 2 ow q.a q.b g q.d ⟨r0, r1, r2, r3, o0, o1, o2, o3, a0, a1, a2, a3, q.x, q.y, q.z, q.w⟩) (fun k ow i g => ix_2 _ _ _ _ _ _ _ _ _ _ _) (dls (lf q.a q.b q.c q.d) 52, K, 0, q.c) ⟨⟨[], rfl⟩, hK, (ix_bd K _ hq.c).1, (ix_bd K _ hq.c).2⟩
          dsimp only at this
          rw [Nat.zero_add] at this
          exact this
        rw [decide_eq_false h2, cond_false] at h
        by_cases h3 : s = 3
        · subst h3
          rw [decide_eq_true (show (3 : Int) = 3 from rfl), cond_true] at h
          cases h
          have := ix_gen rd (lf q.a q.b q.c q.d) q.w (lt64 hq.w) (fun k ow i g => ixv 3 k ow i q.a q.b q.c g ⟨r0, r1, r2, r3, o0, o1, o2, o3, a0, a1, a2, a3, q.x, q.y, q.z, q.w⟩ (cl (lf q.a q.b q.c q.d) 52))
            (fun ow g => ixx 3 ow q.a q.b q.c g ⟨r0, r1, r2, r3, o0, o1, o2, o3, a0, a1, a2, a3, q.x, q.y, q.z, q.w⟩) (fun k ow i g => ix_3 _ _ _ _ _ _ _ _ _ _ _) (dls (lf q.a q.b q.c q.d) 52, K, 0, q.d) ⟨⟨[], rfl⟩, hK, (ix_bd K _ hq.d).1, (ix_bd K _ hq.d).2⟩
          dsimp only at this
          rw [Nat.zero_add] at this
          exact this
        rw [decide_eq_false h3, cond_false] at h
        cases h
    · cases h
  · cases hg
end Go.Proofs.YtpalajfcffdhoaaGreatDoor
