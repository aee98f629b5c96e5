/- Texts merged: Z9, Z10, Z11. -/
import Derived.Test.YtpalajfcffdhoaaGreatZ8
/- Chapter 6, the reference: Index: its formula. -/
namespace Go.Proofs.YtpalajfcffdhoaaGreat
open Go Go.Eng Go.Deal
abbrev B8 := Int → Int → Int → Int → Int → Int → Int → Int → Bool
section
variable (E : EC) (C1 : Int → B8) (QB : B8) (C2 : Int → Int → Int → B8) (CL : Int → Int → Int → Int → List Int → Bool) (R : Int → List Int → Int → Int) (G : Int → Int → List Int → Int → Int)
noncomputable def ckTr : List PV → Fin
  | [.i e, .i k, .i a, .i b, .i c, .i d, .i x, .i y, .i z, .i w, .i r0, .i r1, .i r2, .i r3] => .br (C1 k a b c d x y z w) (.br (QB a b c d x y z w) (.leaf (.exit 0) (ckX.at (.i e :: ckw a b c d x y z w r0 r1 r2 r3))) (.leaf .ret (ckX.at (.i 6 :: ckw a b c d x y z w 0 0 0 0)))) .no
  | _ => .no
noncomputable def ixTr : List PV → Fin
  | [.i s, .i k, .i ow, .i i, .i a, .i b, .i c, .i d, .i x, .i y, .i z, .i w, .i r0, .i r1, .i r2, .i r3, .i o0, .i o1, .i o2, .i o3, .l l, .i a0, .i a1, .i a2, .i a3] => .br (C2 k ow (i - Int.ofNat l.length) a b c d x y z w && CL a b c d l)
      (.br (decide (s = 0)) (.leaf (.exit 6) (ixX.at (ixx 0 (R k l x) (G k a l x) b c d ⟨r0, r1, r2, r3, o0, o1, o2, o3, a0, a1, a2, a3, x, y, z, w⟩))) (.br (decide (s = 1)) (.leaf (.exit 6) (ixX.at (ixx 1 (R k l y) a (G k b l y) c d ⟨r0, r1, r2, r3, o0, o1, o2, o3, a0, a1, a2, a3, x, y, z, w⟩)))
        (.br (decide (s = 2)) (.leaf (.exit 6) (ixX.at (ixx 2 (R k l z) a b (G k c l z) d ⟨r0, r1, r2, r3, o0, o1, o2, o3, a0, a1, a2, a3, x, y, z, w⟩))) (.br (decide (s = 3)) (.leaf (.exit 6) (ixX.at (ixx 3 (R k l w) a b c (G k d l w) ⟨r0, r1, r2, r3, o0, o1, o2, o3, a0, a1, a2, a3, x, y, z, w⟩))) .no)))) .no
  | _ => .no
noncomputable def ixL : Loops := sums (fun n => match n with
  | 4 => some (lsumF 0 ckT ckLp (ckTr C1 QB))
  | 20 => some (lsumF 0 ixT ixLp (ixTr C2 CL R G))
  | _ => none)
def n6V (z : Int) : V := .tuple [.agg [.int .u32 0, .int .u32 0, .int .u32 0, .int .u32 0], .int .i64 z]
noncomputable def ixZ (s h a b c d x y z w p : Int) (o : Int) (io : Bool) (K : Int → Int → Option V) : Option V :=
  bif E.u4 a b c d then bif E.n.u p then bif E.otk s a b c d then cond (codesB [(ixLp, ixLp)]) (bif C2 (wr .i64 (13 - E.ma p)) 0 (wr .i64 (Int.ofNat (E.cd a b c d).length - 1) - Int.ofNat (E.cd a b c d).length) a b c d x y z w && CL a b c d (E.cd a b c d) then
    bif E.ofk (R (wr .i64 (13 - E.ma p)) (E.cd a b c d) h) then bif E.n.i (E.of (R (wr .i64 (13 - E.ma p)) (E.cd a b c d) h)) && E.n.i (E.ot s a b c d) then
      bif io && E.n.i (E.n.mul (E.n.q (E.of (R (wr .i64 (13 - E.ma p)) (E.cd a b c d) h))) (E.n.q (E.ot s a b c d))) then
        K (G (wr .i64 (13 - E.ma p)) p (E.cd a b c d) h) (E.n.add o (E.n.q (E.n.mul (E.n.q (E.of (R (wr .i64 (13 - E.ma p)) (E.cd a b c d) h))) (E.n.q (E.ot s a b c d)))))
      else none else none else none else none) none else none else none else none
theorem rix_eval (a b c d x y z w : Int) : evalFn Tryz.prog (orcC6 E) (ixL C1 QB C2 CL R G) 100 23 Tryz.f23 [q4 a b c d, q4 x y z w] [] (fun v _ => some v) =
    bif E.u4 a b c d then bif !E.pb a b c d then some (n6V 60) else bif E.u4 x y z w then bif !E.rg x y z w then some (n6V 60) else
    cond (codesB [(ckLp, ckLp)]) (bif C1 0 a b c d x y z w then bif QB a b c d x y z w then
      ixZ E C2 CL R G 0 x a b c d x y z w a (E.n.z 0 0 0 0) (E.n.inn 0 0 0 0) fun a o => ixZ E C2 CL R G 1 y a b c d x y z w b (E.n.q o) (E.n.i o) fun b o => ixZ E C2 CL R G 2 z a b c d x y z w c (E.n.q o) (E.n.i o) fun c o => ixZ E C2 CL R G 3 w a b c d x y z w d (E.n.q o) (E.n.i o) fun _ o =>
        some (.tuple [E.n.nW o, .int .i64 0])
    else some (n6V 6) else none) none else none else none := by kernel_rfl
end
end Go.Proofs.YtpalajfcffdhoaaGreat

/- Chapter 6, the reference: Index's contract. -/
namespace Go.Proofs.YtpalajfcffdhoaaGreat
open Go Go.Eng Go.Deal
def lt8 (a b c d x y z w : Int) : Bool := decide ((0 ≤ a ∧ a < 4503599627370496) ∧ (0 ≤ b ∧ b < 4503599627370496) ∧ (0 ≤ c ∧ c < 4503599627370496) ∧ (0 ≤ d ∧ d < 4503599627370496) ∧ (0 ≤ x ∧ x < 4503599627370496) ∧ (0 ≤ y ∧ y < 4503599627370496) ∧ (0 ≤ z ∧ z < 4503599627370496) ∧ (0 ≤ w ∧ w < 4503599627370496))
theorem lt8_nat {a b c d x y z w : Int} (h : lt8 a b c d x y z w = true) : ∃ q : Q8, q.Lt ∧ a = q.a ∧ b = q.b ∧ c = q.c ∧ d = q.d ∧ x = q.x ∧ y = q.y ∧ z = q.z ∧ w = q.w := by
  unfold lt8 at h
  rw [decide_eq_true_eq] at h
  have h52 : (2 : Nat) ^ 52 = 4503599627370496 := by decide
  exact ⟨⟨a.toNat, b.toNat, c.toNat, d.toNat, x.toNat, y.toNat, z.toNat, w.toNat⟩, ⟨by dsimp only; omega, by dsimp only; omega, by dsimp only; omega, by dsimp only; omega, by dsimp only; omega, by dsimp only; omega, by dsimp only; omega, by dsimp only; omega⟩,
    by dsimp only; omega, by dsimp only; omega, by dsimp only; omega, by dsimp only; omega, by dsimp only; omega, by dsimp only; omega, by dsimp only; omega, by dsimp only; omega⟩
def c16a (k a b c d x y z w : Int) : Bool := decide (k = 0) && lt8 a b c d x y z w
def c16b (k ow i a b c d x y z w : Int) : Bool := decide ((0 ≤ k ∧ k ≤ 13) ∧ ow = 0 ∧ i = -1) && lt8 a b c d x y z w
def c16l (a b c d : Int) (l : List Int) : Bool := decide (l = cdI a b c d)
def rkI (k : Int) (l : List Int) (h : Int) : Int := ((rkR h.toNat (l.reverse.map Int.toNat) k.toNat : Nat) : Int)
def gpI (k g : Int) (l : List Int) (h : Int) : Int := g + ((gpR h.toNat (l.reverse.map Int.toNat) k.toNat : Nat) : Int)
theorem ix_bd {m h : Nat} (k g : Nat) (hg : g < 2 ^ 52) : 0 + rkR h (dls m 52) k < 4611686018427387904 ∧ g + gpR h (dls m 52) k < 9223372036854775808 := by
  have h1 := dls_len m 52
  have h2 := cnt_le m 52
  have h3 := rkR_le h (dls m 52) k (by omega)
  have h4 := gpR_le h (dls m 52) k (fun p hp => (dls_lt m 52 p hp).1)
  have h52 : (2 : Nat) ^ 52 = 4503599627370496 := by decide
  have h5 : (dls m 52).length * 4503599627370497 ≤ 52 * 4503599627370497 := Nat.mul_le_mul_right _ (by omega)
  have h6 : (dls m 52).length * 4503599627370496 ≤ 52 * 4503599627370496 := Nat.mul_le_mul_right _ (by omega)
  omega
theorem rkI_n (k m h : Nat) : rkI (k : Int) (cl m 52) (h : Int) = ((rkR h (dls m 52) k : Nat) : Int) := by unfold rkI; rw [cl_back, Int.toNat_natCast, Int.toNat_natCast]
theorem gpI_n (k g m h : Nat) : gpI (k : Int) (g : Int) (cl m 52) (h : Int) = ((g + gpR h (dls m 52) k : Nat) : Int) := by unfold gpI; rw [cl_back, Int.toNat_natCast, Int.toNat_natCast, Int.natCast_add]
theorem ixL_ok : loopsOk Tryz.prog (ixL c16a ixC c16b c16l rkI gpI) := by
  intro n g hg
  simp only [ixL, sums] at hg
  split at hg
  · cases hg
    refine lsumF_ok (by kernel_rfl) (fun rd ps e1 st1 h => ?_)
    unfold ckTr at h
    split at h
    · rename_i e k a b c d x y z w r0 r1 r2 r3
      simp only [Fin.pick] at h
      cases hc : c16a k a b c d x y z w with
      | false => rw [hc] at h; cases h
      | true =>
        rw [hc, cond_true] at h
        unfold c16a at hc
        rw [Bool.and_eq_true, decide_eq_true_eq] at hc
        obtain ⟨rfl, hlt⟩ := hc
        obtain ⟨q, hq, rfl, rfl, rfl, rfl, rfl, rfl, rfl, rfl⟩ := lt8_nat hlt
        have := ck_loop rd q hq e r0 r1 r2 r3 0 ⟨by omega, fun i hi => by omega⟩
        cases hS : ixC q.a q.b q.c q.d q.x q.y q.z q.w with
        | true =>
          rw [hS, cond_true] at h
          cases h
          unfold ckFin at this
          rw [if_pos (ixC_iff.1 hS)] at this
          exact this
        | false =>
          rw [hS, cond_false] at h
          cases h
          unfold ckFin at this
          rw [if_neg (fun g => Bool.eq_false_iff.1 hS (ixC_iff.2 g))] at this
          exact this
    · cases h
  · cases hg
    refine lsumF_ok (by kernel_rfl) (fun rd ps e1 st1 h => ?_)
    unfold ixTr at h
    split at h
    · rename_i s k ow i a b c d x y z w r0 r1 r2 r3 o0 o1 o2 o3 l a0 a1 a2 a3
      simp only [Fin.pick] at h
      cases hc : c16b k ow (i - Int.ofNat l.length) a b c d x y z w && c16l a b c d l with
      | false => rw [hc] at h; cases h
      | true =>
        rw [hc, cond_true] at h
        unfold c16b c16l at hc
        simp only [Bool.and_eq_true, decide_eq_true_eq] at hc
        obtain ⟨⟨⟨⟨k0, k1⟩, rfl, hi⟩, hlt⟩, hl⟩ := hc
        obtain ⟨q, hq, rfl, rfl, rfl, rfl, rfl, rfl, rfl, rfl⟩ := lt8_nat hlt
        obtain ⟨K, rfl⟩ : ∃ x : Nat, k = x := ⟨k.toNat, by omega⟩
        have hK : K ≤ 13 := by omega
        rw [cdI_n] at hl
        subst hl
        have hi' : i = ((dls (lf q.a q.b q.c q.d) 52).length : Int) - 1 := by
          have h1 := cl_len (lf q.a q.b q.c q.d) 52
          have h2 := dls_len (lf q.a q.b q.c q.d) 52
          have h3 : Int.ofNat (cl (lf q.a q.b q.c q.d) 52).length = ((cl (lf q.a q.b q.c q.d) 52).length : Int) := rfl
          omega
        subst hi'
        rw [rkI_n, rkI_n, rkI_n, rkI_n, gpI_n, gpI_n, gpI_n, gpI_n] at h
        by_cases h0 : s = 0
        · subst h0
          rw [decide_eq_true (show (0 : Int) = 0 from rfl), cond_true] at h
          cases h
          have := ix_gen rd (lf q.a q.b q.c q.d) q.x (lt64 hq.x) (fun k ow i g => ixv 0 k ow i g q.b q.c q.d ⟨r0, r1, r2, r3, o0, o1, o2, o3, a0, a1, a2, a3, q.x, q.y, q.z, q.w⟩ (cl (lf q.a q.b q.c q.d) 52))
            (fun ow g => ixx 0 ow g q.b q.c q.d ⟨r0, r1, r2, r3, o0, o1, o2, o3, a0, a1, a2, a3, q.x, q.y, q.z, q.w⟩) (fun k ow i g => ix_0 _ _ _ _ _ _ _ _ _ _ _) (dls (lf q.a q.b q.c q.d) 52, K, 0, q.a) ⟨⟨[], rfl⟩, hK, (ix_bd K _ hq.a).1, (ix_bd K _ hq.a).2⟩
          dsimp only at this
          rw [Nat.zero_add] at this
          exact this
        rw [decide_eq_false h0, cond_false] at h
        by_cases h1 : s = 1
        · subst h1
          rw [decide_eq_true (show (1 : Int) = 1 from rfl), cond_true] at h
          cases h
          have := ix_gen rd (lf q.a q.b q.c q.d) q.y (lt64 hq.y) (fun k ow i g => ixv 1 k ow i q.a g q.c q.d ⟨r0, r1, r2, r3, o0, o1, o2, o3, a0, a1, a2, a3, q.x, q.y, q.z, q.w⟩ (cl (lf q.a q.b q.c q.d) 52))
            (fun ow g => ixx 1 ow q.a g q.c q.d ⟨r0, r1, r2, r3, o0, o1, o2, o3, a0, a1, a2, a3, q.x, q.y, q.z, q.w⟩) (fun k ow i g => ix_1 _ _ _ _ _ _ _ _ _ _ _) (dls (lf q.a q.b q.c q.d) 52, K, 0, q.b) ⟨⟨[], rfl⟩, hK, (ix_bd K _ hq.b).1, (ix_bd K _ hq.b).2⟩
          dsimp only at this
          rw [Nat.zero_add] at this
          exact this
        rw [decide_eq_false h1, cond_false] at h
        by_cases h2 : s = 2
        · subst h2
          rw [decide_eq_true (show (2 : Int) = 2 from rfl), cond_true] at h
          cases h
          have := ix_gen rd (lf q.a q.b q.c q.d) q.z (lt64 hq.z) (fun k ow i g => ixv 2 k ow i q.a q.b g q.d ⟨r0, r1, r2, r3, o0, o1, o2, o3, a0, a1, a2, a3, q.x, q.y, q.z, q.w⟩ (cl (lf q.a q.b q.c q.d) 52))
            (fun ow g => ixx 2 ow q.a q.b g q.d ⟨r0, r1, r2, r3, o0, o1, o2, o3, a0, a1, a2, a3, q.x, q.y, q.z, q.w⟩) (fun k ow i g => ix_2 _ _ _ _ _ _ _ _ _ _ _) (dls (lf q.a q.b q.c q.d) 52, K, 0, q.c) ⟨⟨[], rfl⟩, hK, (ix_bd K _ hq.c).1, (ix_bd K _ hq.c).2⟩
          dsimp only at this
          rw [Nat.zero_add] at this
          exact this
        rw [decide_eq_false h2, cond_false] at h
        by_cases h3 : s = 3
        · subst h3
          rw [decide_eq_true (show (3 : Int) = 3 from rfl), cond_true] at h
          cases h
          have := ix_gen rd (lf q.a q.b q.c q.d) q.w (lt64 hq.w) (fun k ow i g => ixv 3 k ow i q.a q.b q.c g ⟨r0, r1, r2, r3, o0, o1, o2, o3, a0, a1, a2, a3, q.x, q.y, q.z, q.w⟩ (cl (lf q.a q.b q.c q.d) 52))
            (fun ow g => ixx 3 ow q.a q.b q.c g ⟨r0, r1, r2, r3, o0, o1, o2, o3, a0, a1, a2, a3, q.x, q.y, q.z, q.w⟩) (fun k ow i g => ix_3 _ _ _ _ _ _ _ _ _ _ _) (dls (lf q.a q.b q.c q.d) 52, K, 0, q.d) ⟨⟨[], rfl⟩, hK, (ix_bd K _ hq.d).1, (ix_bd K _ hq.d).2⟩
          dsimp only at this
          rw [Nat.zero_add] at this
          exact this
        rw [decide_eq_false h3, cond_false] at h
        cases h
    · cases h
  · cases hg
end Go.Proofs.YtpalajfcffdhoaaGreat

/- Chapter 6, the reference: Index's contract. -/
namespace Go.Proofs.YtpalajfcffdhoaaGreat
open Go Go.Eng Go.Deal
theorem eCofk (x : Int) : eC.ofk x = ofK x := rfl
theorem eCof (x : Int) : eC.of x = N2.ofZ x := rfl
theorem rkR_congr {g h : Nat} : ∀ (D : List Nat) (k : Nat), (∀ p ∈ D, g.testBit p = h.testBit p) → rkR g D k = rkR h D k
  | [], _, _ => rfl
  | p :: D, k, H => by
    rw [rkR, rkR, H p (by simp), rkR_congr D (k - 1) fun x hx => H x (by simp [hx]), rkR_congr D k fun x hx => H x (by simp [hx])]
theorem gpR_congr {g h : Nat} : ∀ (D : List Nat) (k : Nat), (∀ p ∈ D, g.testBit p = h.testBit p) → gpR g D k = gpR h D k
  | [], _, _ => rfl
  | p :: D, k, H => by
    rw [gpR, gpR, H p (by simp), gpR_congr D (k - 1) fun x hx => H x (by simp [hx]), gpR_congr D k fun x hx => H x (by simp [hx])]
theorem lt8_n {a b c d x y z w : Nat} (P : PartD a b c d) (R : PartD x y z w) : lt8 (a : Int) (b : Int) (c : Int) (d : Int) (x : Int) (y : Int) (z : Int) (w : Int) = true := by
  have h52 : (2 : Nat) ^ 52 = 4503599627370496 := by decide
  have h1 := P.la; have h2 := P.lb; have h3 := P.lc; have h4 := P.ld; have h5 := R.la; have h6 := R.lb; have h7 := R.lc; have h8 := R.ld
  unfold lt8
  rw [decide_eq_true_eq]
  omega
theorem ixZ_ok {s : Int} (hs : s = 0 ∨ s = 1 ∨ s = 2 ∨ s = 3) {X H a b c d x y z w W o : Nat} (P : PartD a b c d) (R : PartD x y z w) (hX : X < 2 ^ 52) (hc : cnt X 52 ≤ 13) (hd : Dis X (lf a b c d)) (hH : H < 2 ^ 52) (hXH : Sub X H) (hs0 : Sub (nd H X) (lf a b c d)) (hk : cnt (nd H X) 52 = lk X)
    (hw : othI s (a : Int) (b : Int) (c : Int) (d : Int) = (W : Int)) (hW2 : W < 340282366920938463463374607431768211456) (hr : o + rank (lf a b c d) (nd H X) 52 * W < 340282366920938463463374607431768211456) {io : Bool} (hi : io = true) (K : Int → Int → Option V) :
    ixZ eC c16b c16l rkI gpI s (H : Int) (a : Int) (b : Int) (c : Int) (d : Int) (x : Int) (y : Int) (z : Int) (w : Int) (X : Int) (o : Int) io K = K (H : Int) ((o + rank (lf a b c d) (nd H X) 52 * W : Nat) : Int) := by
  have hl := lk_le X
  have hrk := rank_lt hs0 52
  have hb := bc_52 (n := cnt (lf a b c d) 52) (k := cnt (nd H X) 52) (cnt_le _ _)
  have hcg : ∀ p ∈ dls (lf a b c d) 52, H.testBit p = (nd H X).testBit p := fun p hp => by
    rw [nd_bit]
    have h1 := (dls_lt _ 52 p hp).2
    cases hx : X.testBit p with
    | false => simp
    | true => exact (hd p hx h1).elim
  have eR : rkI ((lk X : Nat) : Int) (cl (lf a b c d) 52) (H : Int) = ((rank (lf a b c d) (nd H X) 52 : Nat) : Int) := by
    rw [rkI_n, rkR_congr _ _ hcg, ← hk, rkR_rank hs0]
  have eG : gpI ((lk X : Nat) : Int) (X : Int) (cl (lf a b c d) 52) (H : Int) = (H : Int) := by
    rw [gpI_n, gpR_congr _ _ hcg, ← hk, gpR_all hs0, Nat.mod_eq_of_lt (sub_lt (nd_sub H X) hH), ← or_add ((nd_dis H X).symm), or_nd hXH]
  have hC : (c16b ((lk X : Nat) : Int) 0 (wr .i64 (Int.ofNat (cl (lf a b c d) 52).length - 1) - Int.ofNat (cl (lf a b c d) 52).length) (a : Int) (b : Int) (c : Int) (d : Int) (x : Int) (y : Int) (z : Int) (w : Int) && c16l (a : Int) (b : Int) (c : Int) (d : Int) (cl (lf a b c d) 52)) = true := by
    have h1 := cl_len (lf a b c d) 52
    have h2 := cnt_le (lf a b c d) 52
    unfold c16b c16l
    rw [lt8_n P R, cdI_n, decide_eq_true (rfl : cl (lf a b c d) 52 = cl (lf a b c d) 52), Bool.and_true, Bool.and_true, decide_eq_true_eq, show Int.ofNat (cl (lf a b c d) 52).length = ((cl (lf a b c d) 52).length : Int) from rfl, wr64 (by omega) (by omega)]
    omega
  unfold ixZ
  rw [eCu4, in4P P, cond_true, eCu_n (lt64 hX), cond_true, eCotk, otK_n hs P, cond_true, codesD, cond_true, eCma, wlkC hc, eCcd, cdI_n, hC, cond_true, eR, eG, hi, eCn, eCot, hw]
  generalize rank (lf a b c d) (nd H X) 52 = r at *
  have hrW : r * W < 340282366920938463463374607431768211456 := by omega
  rw [eCofk, ofK_n (Nat.lt_trans hrk hb), cond_true, eCof, ofZ_n, ii, ii, Bool.and_self, cond_true, qq (by omega), qq hW2, mulq hrW, ii, Bool.and_self, cond_true, qq hrW, addq hr]
theorem rix_p {a b c d x y z w : Int} (h1 : in4 a b c d = true) (h2 : in4 x y z w = true) : FnPure Tryz.prog 23 [q4 a b c d, q4 x y z w] (.tuple [n6.nW (ixI a b c d x y z w), .int .i64 (ixE a b c d x y z w)]) := by
  have h11 := h1; have h22 := h2
  obtain ⟨a, b, c, d, rfl, rfl, rfl, rfl, ha, hb, hc, hd⟩ := in4_nat h1
  obtain ⟨x, y, z, w, rfl, rfl, rfl, rfl, hx, hy, hz, hw⟩ := in4_nat h2
  refine fnPure_of_eval (N := 100) orcC6_ok mixed Tryz.func23 (by kernel_rfl) ixL_ok ?_ rfl rfl
  refine (rix_eval eC c16a ixC c16b c16l rkI gpI _ _ _ _ _ _ _ _).trans ?_
  rw [eCu4, eCu4, h11, h22, cond_true, cond_true, show eC.pb (a : Int) (b : Int) (c : Int) (d : Int) = parB (a : Int) (b : Int) (c : Int) (d : Int) from rfl, show eC.rg (x : Int) (y : Int) (z : Int) (w : Int) = rgB (x : Int) (y : Int) (z : Int) (w : Int) from rfl, codesD, cond_true]
  unfold ixI ixE
  cases hp : parB (a : Int) (b : Int) (c : Int) (d : Int) with
  | false => rfl
  | true =>
    cases hr : rgB (x : Int) (y : Int) (z : Int) (w : Int) with
    | false => rw [Bool.not_true, cond_false, Bool.not_false, cond_true, Bool.false_and, Bool.and_false, cond_false, cond_false]; rfl
    | true =>
      have P := parB_iff.1 hp
      have R := rgB_iff.1 hr
      have RP := R.toPartD
      have hca : c16a 0 (a : Int) (b : Int) (c : Int) (d : Int) (x : Int) (y : Int) (z : Int) (w : Int) = true := by unfold c16a; rw [lt8_n P RP]; rfl
      rw [hca, Bool.not_true, cond_false, cond_false, cond_true]
      cases hS : ixC (a : Int) (b : Int) (c : Int) (d : Int) (x : Int) (y : Int) (z : Int) (w : Int) with
      | false => rfl
      | true =>
        have g := ixC_iff.1 hS
        obtain ⟨G, hcs⟩ := RightD.good R g.1 g.2.1 g.2.2.1 g.2.2.2
        have hlt := idx_lt G (by rw [hcs]; exact P.lf_cnt)
        obtain ⟨f0, f1, f2, f3⟩ := wy_four (a := lk a) (b := lk b) (c := lk c) (d := lk d) (by unfold lk; omega) (by unfold lk; omega) (by unfold lk; omega) (by unfold lk; omega)
        have hcs' : cs [nd x a, nd y b, nd z c, nd w d] = [lk a, lk b, lk c, lk d] := hcs
        rw [hcs'] at hlt
        simp only [cs, List.cons.injEq, and_true] at hcs'
        obtain ⟨k0, k1, k2, k3⟩ := hcs'
        obtain ⟨s0, l0, s1, l1, s2, l2, s3, l3, _⟩ := G
        have hN : ixN a b c d x y z w = rank (lf a b c d) (nd x a) 52 * wy [lk b, lk c, lk d] + (rank (nd (lf a b c d) (nd x a)) (nd y b) 52 * wy [lk c, lk d] +
            (rank (nd (nd (lf a b c d) (nd x a)) (nd y b)) (nd z c) 52 * 1 + (rank (nd (nd (nd (lf a b c d) (nd x a)) (nd y b)) (nd z c)) (nd w d) 52 * 1 + 0))) := by
          unfold ixN
          simp only [idx, cs]
          rw [k1, k2, k3, f3]
          rfl
        have hlt' : ixN a b c d x y z w < 2 ^ 117 := Nat.lt_of_lt_of_le hlt f0
        rw [hN] at hlt'
        have P1 : PartD x b c d := RP.sub (Sub.refl _) g.2.1 g.2.2.1 g.2.2.2
        have P2 : PartD x y c d := RP.sub (Sub.refl _) (Sub.refl _) g.2.2.1 g.2.2.2
        have P3 : PartD x y z d := RP.sub (Sub.refl _) (Sub.refl _) (Sub.refl _) g.2.2.2
        have L1 : lf x b c d = nd (lf a b c d) (nd x a) := by have := (lf_or a b c d (nd x a)).1; rwa [or_nd g.1] at this
        have L2 : lf x y c d = nd (nd (lf a b c d) (nd x a)) (nd y b) := by have := (lf_or x b c d (nd y b)).2.1; rwa [or_nd g.2.1, L1] at this
        have L3 : lf x y z d = nd (nd (nd (lf a b c d) (nd x a)) (nd y b)) (nd z c) := by have := (lf_or x y c d (nd z c)).2.2.1; rwa [or_nd g.2.2.1, L2] at this
        rw [eCn, show n6.z 0 0 0 0 = ((0 : Nat) : Int) from smallz 0, show n6.inn 0 0 0 0 = true from smalli (x := 0) (by decide), cond_true]
        rw [ixZ_ok (s := 0) (.inl rfl) P RP P.la P.ca (P.lf_dis (Sub.refl _)).1 RP.la g.1 s0 k0 (W := wy [lk b, lk c, lk d]) rfl (by omega) (by omega) rfl]
        rw [ii, qq (by omega), ixZ_ok (s := 1) (.inr (.inl rfl)) P1 RP P.lb P.cb (P1.lf_dis (Sub.refl _)).2.1 RP.lb g.2.1 (by rw [L1]; exact s1) k1 (W := wy [lk c, lk d]) rfl (by omega) (by rw [L1]; omega) rfl, L1]
        rw [ii, qq (by omega), ixZ_ok (s := 2) (.inr (.inr (.inl rfl))) P2 RP P.lc P.cc (P2.lf_dis (Sub.refl _)).2.2.1 RP.lc g.2.2.1 (by rw [L2]; exact s2) k2 (W := 1) rfl (by decide) (by rw [L2]; omega) rfl, L2]
        rw [ii, qq (by omega), ixZ_ok (s := 3) (.inr (.inr (.inr rfl))) P3 RP P.ld P.cd (P3.lf_dis (Sub.refl _)).2.2.2 RP.ld g.2.2.2 (by rw [L3]; exact s3) k3 (W := 1) rfl (by decide) (by rw [L3]; omega) rfl, L3]
        rw [Int.toNat_natCast, Int.toNat_natCast, Int.toNat_natCast, Int.toNat_natCast, Int.toNat_natCast, Int.toNat_natCast, Int.toNat_natCast, Int.toNat_natCast, hN, assoc4]
        rfl
end Go.Proofs.YtpalajfcffdhoaaGreat
