/- Texts merged: Z11, G1. -/
import Derived.Test.YtpalajfcffdhoaaGreatDoorZ9
import Derived.Test.YtpalajfcffdhoaaGreatDoorCWrite3
import Derived.Test.YtpalajfcffdhoaaGreatDoorE6
/- Chapter 6, the reference: Index's contract. -/
namespace Go.Proofs.YtpalajfcffdhoaaGreatDoor
open Go Go.Eng Go.Deal
theorem eCofk (x : Int) : eC.ofk x = ofK x := rfl
theorem eCof (x : Int) : eC.of x = N2.ofZ x := rfl
theorem rkR_congr {g h : Nat} : ∀ (D : List Nat) (k : Nat), (∀ p ∈ D, g.testBit p = h.testBit p) → rkR g D k = rkR h D k
  | [], _, _ => rfl
  | p :: D, k, H => by
    rw [rkR, rkR, H p (by simp), rkR_congr D (k - 1) fun x hx => H x (by simp [hx]), rkR_congr D k fun x hx => H x (by simp [hx])]
theorem gpR_congr {g h : Nat} : ∀ (D : List Nat) (k : Nat), (∀ p ∈ D, g.testBit p = h.testBit p) → gpR g D k = gpR h D k
  | [], _, _ => rfl
  | p :: D, k, H => by
    rw [gpR, gpR, H p (by simp), gpR_congr D (k - 1) fun x hx => H x (by simp [hx]), gpR_congr D k fun x hx => H x (by simp [hx])]
theorem lt8_n {a b c d x y z w : Nat} (P : PartD a b c d) (R : PartD x y z w) : lt8 (a : Int) (b : Int) (c : Int) (d : Int) (x : Int) (y : Int) (z : Int) (w : Int) = true := by
  have h52 : (2 : Nat) ^ 52 = 4503599627370496 := by decide
  have h1 := P.la; have h2 := P.lb; have h3 := P.lc; have h4 := P.ld; have h5 := R.la; have h6 := R.lb; have h7 := R.lc; have h8 := R.ld
  unfold lt8
  rw [decide_eq_true_eq]
  omega
theorem ixZ_ok {s : Int} (hs : s = 0 ∨ s = 1 ∨ s = 2 ∨ s = 3) {X H a b c d x y z w W o : Nat} (P : PartD a b c d) (R : PartD x y z w) (hX : X < 2 ^ 52) (hc : cnt X 52 ≤ 13) (hd : Dis X (lf a b c d)) (hH : H < 2 ^ 52) (hXH : Sub X H) (hs0 : Sub (nd H X) (lf a b c d)) (hk : cnt (nd H X) 52 = lk X)
    (hw : othI s (a : Int) (b : Int) (c : Int) (d : Int) = (W : Int)) (hW2 : W < 340282366920938463463374607431768211456) (hr : o + rank (lf a b c d) (nd H X) 52 * W < 340282366920938463463374607431768211456) {io : Bool} (hi : io = true) (K : Int → Int → Option V) :
    ixZ eC c16b c16l rkI gpI s (H : Int) (a : Int) (b : Int) (c : Int) (d : Int) (x : Int) (y : Int) (z : Int) (w : Int) (X : Int) (o : Int) io K = K (H : Int) ((o + rank (lf a b c d) (nd H X) 52 * W : Nat) : Int) := by
  have hl := lk_le X
  have hrk := rank_lt hs0 52
  have hb := bc_52 (n := cnt (lf a b c d) 52) (k := cnt (nd H X) 52) (cnt_le _ _)
  have hcg : ∀ p ∈ dls (lf a b c d) 52, H.testBit p = (nd H X).testBit p := fun p hp => by
    rw [nd_bit]
    have h1 := (dls_lt _ 52 p hp).2
    cases hx : X.testBit p with
    | false => simp
    | true => exact (hd p hx h1).elim
  have eR : rkI ((lk X : Nat) : Int) (cl (lf a b c d) 52) (H : Int) = ((rank (lf a b c d) (nd H X) 52 : Nat) : Int) := by
    rw [rkI_n, rkR_congr _ _ hcg, ← hk, rkR_rank hs0]
  have eG : gpI ((lk X : Nat) : Int) (X : Int) (cl (lf a b c d) 52) (H : Int) = (H : Int) := by
    rw [gpI_n, gpR_congr _ _ hcg, ← hk, gpR_all hs0, Nat.mod_eq_of_lt (sub_lt (nd_sub H X) hH), ← or_add ((nd_dis H X).symm), or_nd hXH]
  have hC : (c16b ((lk X : Nat) : Int) 0 (wr .i64 (Int.ofNat (cl (lf a b c d) 52).length - 1) - Int.ofNat (cl (lf a b c d) 52).length) (a : Int) (b : Int) (c : Int) (d : Int) (x : Int) (y : Int) (z : Int) (w : Int) && c16l (a : Int) (b : Int) (c : Int) (d : Int) (cl (lf a b c d) 52)) = true := by
    have h1 := cl_len (lf a b c d) 52
    have h2 := cnt_le (lf a b c d) 52
    unfold c16b c16l
    rw [lt8_n P R, cdI_n, decide_eq_true (rfl : cl (lf a b c d) 52 = cl (lf a b c d) 52), Bool.and_true, Bool.and_true, decide_eq_true_eq, show Int.ofNat (cl (lf a b c d) 52).length = ((cl (lf a b c d) 52).length : Int) from rfl, wr64 (by omega) (by omega)]
    omega
  unfold ixZ
  rw [eCu4, in4P P, cond_true, eCu_n (lt64 hX), cond_true, eCotk, otK_n hs P, cond_true, codesD, cond_true, eCma, wlkC hc, eCcd, cdI_n, hC, cond_true, eR, eG, hi, eCn, eCot, hw]
  generalize rank (lf a b c d) (nd H X) 52 = r at *
  have hrW : r * W < 340282366920938463463374607431768211456 := by omega
  rw [eCofk, ofK_n (Nat.lt_trans hrk hb), cond_true, eCof, ofZ_n, ii, ii, Bool.and_self, cond_true, qq (by omega), qq hW2, mulq hrW, ii, Bool.and_self, cond_true, qq hrW, addq hr]
theorem rix_p {a b c d x y z w : Int} (h1 : in4 a b c d = true) (h2 : in4 x y z w = true) : FnPure Tryz.prog 36 [q4 a b c d, q4 x y z w] (.tuple [n6.nW (ixI a b c d x y z w), .int .i64 (ixE a b c d x y z w)]) := by
  have h11 := h1; have h22 := h2
  obtain ⟨a, b, c, d, rfl, rfl, rfl, rfl, ha, hb, hc, hd⟩ := in4_nat h1
  obtain ⟨x, y, z, w, rfl, rfl, rfl, rfl, hx, hy, hz, hw⟩ := in4_nat h2
  refine fnPure_of_eval (N := 100) orcC6_ok mixed Tryz.func36 (by kernel_rfl) ixL_ok ?_ rfl rfl
  refine (rix_eval eC c16a ixC c16b c16l rkI gpI _ _ _ _ _ _ _ _).trans ?_
  rw [eCu4, eCu4, h11, h22, cond_true, cond_true, show eC.pb (a : Int) (b : Int) (c : Int) (d : Int) = parB (a : Int) (b : Int) (c : Int) (d : Int) from rfl, show eC.rg (x : Int) (y : Int) (z : Int) (w : Int) = rgB (x : Int) (y : Int) (z : Int) (w : Int) from rfl, codesD, cond_true]
  unfold ixI ixE
  cases hp : parB (a : Int) (b : Int) (c : Int) (d : Int) with
  | false => rfl
  | true =>
    cases hr : rgB (x : Int) (y : Int) (z : Int) (w : Int) with
    | false => rw [Bool.not_true, cond_false, Bool.not_false, cond_true, Bool.false_and, Bool.and_false, cond_false, cond_false]; rfl
    | true =>
      have P := parB_iff.1 hp
      have R := rgB_iff.1 hr
      have RP := R.toPartD
      have hca : c16a 0 (a : Int) (b : Int) (c : Int) (d : Int) (x : Int) (y : Int) (z : Int) (w : Int) = true := by unfold c16a; rw [lt8_n P RP]; rfl
      rw [hca, Bool.not_true, cond_false, cond_false, cond_true]
      cases hS : ixC (a : Int) (b : Int) (c : Int) (d : Int) (x : Int) (y : Int) (z : Int) (w : Int) with
      | false => rfl
      | true =>
        have g := ixC_iff.1 hS
        obtain ⟨G, hcs⟩ := RightD.good R g.1 g.2.1 g.2.2.1 g.2.2.2
        have hlt := idx_lt G (by rw [hcs]; exact P.lf_cnt)
        obtain ⟨f0, f1, f2, f3⟩ := wy_four (a := lk a) (b := lk b) (c := lk c) (d := lk d) (by unfold lk; omega) (by unfold lk; omega) (by unfold lk; omega) (by unfold lk; omega)
        have hcs' : cs [nd x a, nd y b, nd z c, nd w d] = [lk a, lk b, lk c, lk d] := hcs
        rw [hcs'] at hlt
        simp only [cs, List.cons.injEq, and_true] at hcs'
        obtain ⟨k0, k1, k2, k3⟩ := hcs'
        obtain ⟨s0, l0, s1, l1, s2, l2, s3, l3, _⟩ := G
        have hN : ixN a b c d x y z w = rank (lf a b c d) (nd x a) 52 * wy [lk b, lk c, lk d] + (rank (nd (lf a b c d) (nd x a)) (nd y b) 52 * wy [lk c, lk d] +
            (rank (nd (nd (lf a b c d) (nd x a)) (nd y b)) (nd z c) 52 * 1 + (rank (nd (nd (nd (lf a b c d) (nd x a)) (nd y b)) (nd z c)) (nd w d) 52 * 1 + 0))) := by
          unfold ixN
          simp only [idx, cs]
          rw [k1, k2, k3, f3]
          rfl
        have hlt' : ixN a b c d x y z w < 2 ^ 117 := Nat.lt_of_lt_of_le hlt f0
        rw [hN] at hlt'
        have P1 : PartD x b c d := RP.sub (Sub.refl _) g.2.1 g.2.2.1 g.2.2.2
        have P2 : PartD x y c d := RP.sub (Sub.refl _) (Sub.refl _) g.2.2.1 g.2.2.2
        have P3 : PartD x y z d := RP.sub (Sub.refl _) (Sub.refl _) (Sub.refl _) g.2.2.2
        have L1 : lf x b c d = nd (lf a b c d) (nd x a) := by have := (lf_or a b c d (nd x a)).1; rwa [or_nd g.1] at this
        have L2 : lf x y c d = nd (nd (lf a b c d) (nd x a)) (nd y b) := by have := (lf_or x b c d (nd y b)).2.1; rwa [or_nd g.2.1, L1] at this
        have L3 : lf x y z d = nd (nd (nd (lf a b c d) (nd x a)) (nd y b)) (nd z c) := by have := (lf_or x y c d (nd z c)).2.2.1; rwa [or_nd g.2.2.1, L2] at this
        rw [eCn, show n6.z 0 0 0 0 = ((0 : Nat) : Int) from smallz 0, show n6.inn 0 0 0 0 = true from smalli (x := 0) (by decide), cond_true]
        rw [ixZ_ok (s := 0) (.inl rfl) P RP P.la P.ca (P.lf_dis (Sub.refl _)).1 RP.la g.1 s0 k0 (W := wy [lk b, lk c, lk d]) rfl (by omega) (by omega) rfl]
        rw [ii, qq (by omega), ixZ_ok (s := 1) (.inr (.inl rfl)) P1 RP P.lb P.cb (P1.lf_dis (Sub.refl _)).2.1 RP.lb g.2.1 (by rw [L1]; exact s1) k1 (W := wy [lk c, lk d]) rfl (by omega) (by rw [L1]; omega) rfl, L1]
        rw [ii, qq (by omega), ixZ_ok (s := 2) (.inr (.inr (.inl rfl))) P2 RP P.lc P.cc (P2.lf_dis (Sub.refl _)).2.2.1 RP.lc g.2.2.1 (by rw [L2]; exact s2) k2 (W := 1) rfl (by decide) (by rw [L2]; omega) rfl, L2]
        rw [ii, qq (by omega), ixZ_ok (s := 3) (.inr (.inr (.inr rfl))) P3 RP P.ld P.cd (P3.lf_dis (Sub.refl _)).2.2.2 RP.ld g.2.2.2 (by rw [L3]; exact s3) k3 (W := 1) rfl (by decide) (by rw [L3]; omega) rfl, L3]
        rw [Int.toNat_natCast, Int.toNat_natCast, Int.toNat_natCast, Int.toNat_natCast, Int.toNat_natCast, Int.toNat_natCast, Int.toNat_natCast, Int.toNat_natCast, hN, assoc4]
        rfl
end Go.Proofs.YtpalajfcffdhoaaGreatDoor

/- Chapter 6: states and completes: formulas over names. -/
namespace Go.Proofs.YtpalajfcffdhoaaGreatDoor
open Go Go.Eng Go.Deal
structure GS where
  n : N6
  u : Int → Int → Int → Int → Bool
  pb : Int → Int → Int → Int → Bool
  rg : Int → Int → Int → Int → Bool
  lf : Int → Int → Int → Int → Int
  le : Int → Int → Int → Int → Int
  wy : Int → Int → Int → Int → Int
  t0 : Int → Int → Int → Int → Int → Int
  t1 : Int → Int → Int → Int → Int → Int
  t2 : Int → Int → Int → Int → Int → Int
  t3 : Int → Int → Int → Int → Int → Int
  c0 : Int → Int → Int → Int → Int → Int
  c1 : Int → Int → Int → Int → Int → Int
  c2 : Int → Int → Int → Int → Int → Int
  c3 : Int → Int → Int → Int → Int → Int
  ce : Int → Int → Int → Int → Int → Int
  ix : Int → Int → Int → Int → Int → Int → Int → Int → Int
  ie : Int → Int → Int → Int → Int → Int → Int → Int → Int
  oi : Int → Int → Int → Int → Int → Int
  ob : Int → Int → Int → Int → Int → Bool
  tx : Int → Int → Int → Int → ByteArray
section
variable (D : GS)
def jPar : List V → Option (Bool × V)
  | [.agg [.int .u64 a, .int .u64 b, .int .u64 c, .int .u64 d]] => some (D.u a b c d, .bool (D.pb a b c d))
  | _ => none
def jRig : List V → Option (Bool × V)
  | [.agg [.int .u64 a, .int .u64 b, .int .u64 c, .int .u64 d]] => some (D.u a b c d, .bool (D.rg a b c d))
  | _ => none
def jLef : List V → Option (Bool × V)
  | [.agg [.int .u64 a, .int .u64 b, .int .u64 c, .int .u64 d]] => some (D.u a b c d, .tuple [.int .u64 (D.lf a b c d), .int .i64 (D.le a b c d)])
  | _ => none
def jWay : List V → Option (Bool × V)
  | [.agg [.int .u64 a, .int .u64 b, .int .u64 c, .int .u64 d]] => some (D.u a b c d, .tuple [D.n.nW (D.wy a b c d), .int .i64 (D.le a b c d)])
  | _ => none
def jTur : List V → Option (Bool × V)
  | [.agg [.int .u64 a, .int .u64 b, .int .u64 c, .int .u64 d], .int .i64 k] => some (true, q4 (D.t0 k a b c d) (D.t1 k a b c d) (D.t2 k a b c d) (D.t3 k a b c d))
  | _ => none
def jCpl : List V → Option (Bool × V)
  | [.agg [.int .u64 a, .int .u64 b, .int .u64 c, .int .u64 d], .agg [.int .u32 e, .int .u32 f, .int .u32 g, .int .u32 h]] => some (D.u a b c d && D.n.inn e f g h,
      .tuple [q4 (D.c0 a b c d (D.n.z e f g h)) (D.c1 a b c d (D.n.z e f g h)) (D.c2 a b c d (D.n.z e f g h)) (D.c3 a b c d (D.n.z e f g h)), .int .i64 (D.ce a b c d (D.n.z e f g h))])
  | _ => none
def jIdx : List V → Option (Bool × V)
  | [.agg [.int .u64 a, .int .u64 b, .int .u64 c, .int .u64 d], .agg [.int .u64 x, .int .u64 y, .int .u64 z, .int .u64 w]] => some (D.u a b c d && D.u x y z w, .tuple [D.n.nW (D.ix a b c d x y z w), .int .i64 (D.ie a b c d x y z w)])
  | _ => none
def jOwn : List V → Option (Bool × V)
  | [.agg [.int .u64 a, .int .u64 b, .int .u64 c, .int .u64 d], .int .u8 k] => some (D.u a b c d && decide (0 ≤ k), .tuple [.int .u8 (D.oi a b c d k), .bool (D.ob a b c d k)])
  | _ => none
def jOwR : List V → Option (Bool × V)
  | [.agg [.int .u64 a, .int .u64 b, .int .u64 c, .int .u64 d], .int .i64 k] => some (D.u a b c d && decide (0 ≤ k ∧ k ≤ 1000), .tuple [.int .u8 (D.oi a b c d k), .bool (D.ob a b c d k)])
  | _ => none
def jTxt : List V → Option (Bool × V)
  | [.agg [.int .u64 a, .int .u64 b, .int .u64 c, .int .u64 d]] => some (D.u a b c d, .tuple [.str (D.tx a b c d), .int .i64 (D.le a b c d)])
  | _ => none
def tabG : PTab := addTab 20 (jPar D) (addTab 21 (jPar D) (addTab 18 (jRig D) (addTab 19 (jRig D) (addTab 12 (jLef D) (addTab 13 (jLef D) (addTab 14 (jWay D) (addTab 6 (jWay D) (addTab 22 (jTur D) (addTab 23 (jTur D) (addTab 34 (jCpl D) (addTab 7 (jCpl D) (addTab 35 (jIdx D) (addTab 36 (jIdx D) (addTab 16 (jOwn D) (addTab 17 (jOwR D) (addTab 15 (jTxt D) (addTab 9 (jTxt D) emptyTab)))))))))))))))))
noncomputable abbrev orcG : Oracle := orcN D.n (tabG D) plainL
def e4 (a b c d : Int) : Bool := decide (a = a) && (decide (b = b) && (decide (c = c) && (decide (d = d) && true)))
theorem bqB_r (x : Bool) : (bif x then x else !x) = true := by cases x <;> rfl
theorem states_eval (a b c d k n : Int) : evalFn Tryz.prog (orcG D) noLoops 100 5 Tryz.f5 [q4 a b c d, .int .u8 k, .int .i64 n] [] (fun v _ => some v) =
    bif D.u a b c d then bif D.u a b c d then bif D.u a b c d then bif D.u a b c d then bif D.u a b c d then bif D.u a b c d then
    bif D.u a b c d && decide (0 ≤ k) then bif D.u a b c d && decide (0 ≤ wr .i64 k ∧ wr .i64 k ≤ 1000) then bif D.u a b c d then bif D.u a b c d then
    bif bif D.rg a b c d then D.rg a b c d else !D.rg a b c d then bif D.u a b c d then bif D.u a b c d then
    bif bif D.pb a b c d then D.pb a b c d else !D.pb a b c d then
    bif decide (D.lf a b c d = D.lf a b c d) then bif decide (D.le a b c d = D.le a b c d) then
    bif e4 (D.n.w0 (D.wy a b c d)) (D.n.w1 (D.wy a b c d)) (D.n.w2 (D.wy a b c d)) (D.n.w3 (D.wy a b c d)) then
    bif decide (D.le a b c d = D.le a b c d) then bif beqBs (D.tx a b c d).data.toList (D.tx a b c d).data.toList then bif decide (D.le a b c d = D.le a b c d) then
    bif decide (D.oi a b c d k = D.oi a b c d (wr .i64 k)) then bif bif D.ob a b c d k then D.ob a b c d (wr .i64 k) else !D.ob a b c d (wr .i64 k) then
    some (.bool (e4 (D.t0 n a b c d) (D.t1 n a b c d) (D.t2 n a b c d) (D.t3 n a b c d)))
    else flsV else flsV else flsV else flsV else flsV else flsV else flsV else flsV else flsV else none else none else flsV else none else none else none else none else none else none else none else none else none else none := by kernel_rfl
theorem completes_eval (a b c d x y z w e f g h : Int) : evalFn Tryz.prog (orcG D) noLoops 100 8 Tryz.f8 [q4 a b c d, q4 x y z w, .agg [.int .u32 e, .int .u32 f, .int .u32 g, .int .u32 h]] [] (fun v _ => some v) =
    bif D.u a b c d && D.n.inn e f g h then bif D.u a b c d && D.n.inn e f g h then bif D.u a b c d && D.u x y z w then bif D.u a b c d && D.u x y z w then
    bif e4 (D.c0 a b c d (D.n.z e f g h)) (D.c1 a b c d (D.n.z e f g h)) (D.c2 a b c d (D.n.z e f g h)) (D.c3 a b c d (D.n.z e f g h)) then bif decide (D.ce a b c d (D.n.z e f g h) = D.ce a b c d (D.n.z e f g h)) then
    bif e4 (D.n.w0 (D.ix a b c d x y z w)) (D.n.w1 (D.ix a b c d x y z w)) (D.n.w2 (D.ix a b c d x y z w)) (D.n.w3 (D.ix a b c d x y z w)) then some (.bool (decide (D.ie a b c d x y z w = D.ie a b c d x y z w)))
    else flsV else flsV else flsV else none else none else none else none := by kernel_rfl
theorem beqBs_r : ∀ l : List UInt8, beqBs l l = true
  | [] => rfl
  | x :: r => by simp [beqBs, beqBs_r r]
theorem e4_r (a b c d : Int) : e4 a b c d = true := by unfold e4; simp
end
noncomputable def gS : GS := ⟨n6, in4, parB, rgB, lfI, leI, wyI, tu0, tu1, tu2, tu3, cp0, cp1, cp2, cp3, cpE, ixI, ixE, owI, owB, txI⟩
theorem gS_u (a b c d : Int) : gS.u a b c d = in4 a b c d := rfl
theorem tabG_ok : PTabOk Tryz.prog (tabG gS) := by
  refine addTab_ok ?_ (addTab_ok ?_ (addTab_ok ?_ (addTab_ok ?_ (addTab_ok ?_ (addTab_ok ?_ (addTab_ok ?_ (addTab_ok ?_ (addTab_ok ?_ (addTab_ok ?_ (addTab_ok ?_ (addTab_ok ?_ (addTab_ok ?_ (addTab_ok ?_ (addTab_ok ?_ (addTab_ok ?_ (addTab_ok ?_ (addTab_ok ?_ emptyTab_ok)))))))))))))))))
  · intro args c v h hc
    unfold jPar at h; split at h
    · cases h; exact par_p hc
    · cases h
  · intro args c v h hc
    unfold jPar at h; split at h
    · cases h; exact rpar_p hc
    · cases h
  · intro args c v h hc
    unfold jRig at h; split at h
    · cases h; exact right_p hc
    · cases h
  · intro args c v h hc
    unfold jRig at h; split at h
    · cases h; exact rright_p hc
    · cases h
  · intro args c v h hc
    unfold jLef at h; split at h
    · cases h; exact left_p hc
    · cases h
  · intro args c v h hc
    unfold jLef at h; split at h
    · cases h; exact rleft_p hc
    · cases h
  · intro args c v h hc
    unfold jWay at h; split at h
    · cases h; exact ways_p hc
    · cases h
  · intro args c v h hc
    unfold jWay at h; split at h
    · cases h; exact rways_p hc
    · cases h
  · intro args c v h hc
    unfold jTur at h; split at h
    · cases h; exact turn_p _ _ _ _ _
    · cases h
  · intro args c v h hc
    unfold jTur at h; split at h
    · cases h; exact rturn_p _ _ _ _ _
    · cases h
  · intro args c v h hc
    unfold jCpl at h; split at h
    · cases h; rw [Bool.and_eq_true] at hc; exact cpl_p hc.1 hc.2
    · cases h
  · intro args c v h hc
    unfold jCpl at h; split at h
    · cases h; rw [Bool.and_eq_true] at hc; exact rcpl_p hc.1 hc.2
    · cases h
  · intro args c v h hc
    unfold jIdx at h; split at h
    · cases h; rw [Bool.and_eq_true] at hc; exact idx_p hc.1 hc.2
    · cases h
  · intro args c v h hc
    unfold jIdx at h; split at h
    · cases h; rw [Bool.and_eq_true] at hc; exact rix_p hc.1 hc.2
    · cases h
  · intro args c v h hc
    unfold jOwn at h; split at h
    · cases h; rw [Bool.and_eq_true, decide_eq_true_eq] at hc; exact owner_p hc.1 hc.2
    · cases h
  · intro args c v h hc
    unfold jOwR at h; split at h
    · cases h; rw [Bool.and_eq_true, decide_eq_true_eq] at hc; exact rowner_p hc.1 hc.2
    · cases h
  · intro args c v h hc
    unfold jTxt at h; split at h
    · cases h; exact text_p hc
    · cases h
  · intro args c v h hc
    unfold jTxt at h; split at h
    · cases h; exact rwr_p hc
    · cases h
theorem orcG_ok : OracleOk Tryz.prog (orcG gS) := orcN_ok tabG_ok plainL_ok
theorem states_p {a b c d k : Int} (n : Int) (h : in4 a b c d = true) (h0 : 0 ≤ k) (h1 : k < 256) : FnPure Tryz.prog 5 [q4 a b c d, .int .u8 k, .int .i64 n] (.bool true) := by
  refine fnPure_of_eval (N := 100) orcG_ok mixed Tryz.func5 (by kernel_rfl) noLoops_ok ?_ rfl rfl
  have w : wr .i64 k = k := wr64 (by omega) (by omega)
  have e := states_eval gS a b c d k n
  rw [w, gS_u, h] at e
  rw [decide_eq_true h0, decide_eq_true (show 0 ≤ k ∧ k ≤ 1000 by omega), bqB_r, bqB_r, bqB_r, beqBs_r, e4_r, e4_r] at e
  simp only at e
  exact e
theorem completes_p {a b c d x y z w e f g i : Int} (h : in4 a b c d = true) (h2 : in4 x y z w = true) (h3 : N2.inN e f g i = true) : FnPure Tryz.prog 8 [q4 a b c d, q4 x y z w, .agg [.int .u32 e, .int .u32 f, .int .u32 g, .int .u32 i]] (.bool true) := by
  refine fnPure_of_eval (N := 100) orcG_ok mixed Tryz.func8 (by kernel_rfl) noLoops_ok ?_ rfl rfl
  have k := completes_eval gS a b c d x y z w e f g i
  rw [gS_u, gS_u, h, h2, show gS.n.inn e f g i = true from h3, e4_r, e4_r, decide_eq_true rfl, decide_eq_true rfl] at k
  exact k
end Go.Proofs.YtpalajfcffdhoaaGreatDoor
