/- Texts merged: End3, Trn2. -/
import Derived.Test.YtnhilofmafjdpaaDoorEnd2
import Derived.Test.YtnhilofmafjdpaaDoorTrn
/- Chapter 9: the law AuctionEnds. -/
namespace Go.Proofs.YtnhilofmafjdpaaDoor
open Go Go.Eng
noncomputable def fF : Option V := some (.bool false)
noncomputable def en3 (LV LE : Int → Int → Int → Int → Int) (cl cd cr cs : Int) : Option V := bif decide (0 ≤ cs) then bif decide (cr = cr) then bif decide (LE cl cd cr cs = 0) then some (.bool (decide (LV cl cd cr cs = (wr .u8 (cs + 1)).tmod 4))) else fF else fF else none
noncomputable def en2 (LV LE : Int → Int → Int → Int → Int) (C2 : Int → Int → Int → Int → List Int → Int → Bool) (C3 : Int → Int → Int → List Int → Int → Bool) (D li v : Int) (X : List Int) (cl cd cr cs : Int) : Option V :=
  bif !decide (cl = lvZ v) then fF else bif !decide (cd = dnZ v) then fF else bif !decide ((wr .i64 cs).tmod 2 = ((wr .i64 (wr .i64 D + li)).tmod 4).tmod 2) then fF else
  cond (codesB [(e2Lp, e2Lp)]) (bif decide ((0 : Int) = 0) && C2 D (dnZ v) ((wr .i64 (wr .i64 D + li)).tmod 4) (Int.ofNat X.length) X cs then
    cond (codesB [(e3Lp, e3Lp)]) (bif decide ((0 : Int) = 0) && C3 D ((wr .i64 (wr .i64 D + li)).tmod 4) (wr .i64 (li + 1)) X cr then en3 LV LE cl cd cr cs else none) none else none) none
noncomputable def en1 (K : NK) (LV LE : Int → Int → Int → Int → Int) (C2 : Int → Int → Int → Int → List Int → Int → Bool) (C3 : Int → Int → Int → List Int → Int → Bool) (D : Int) (X : List Int) : Option V :=
  bif K.N.K D X then bif K.N.K D X then bif !K.N.OB D X then fF else bif !decide (wr .i64 (K.N.OE D X + K.N.CE D X) = 0) then fF else bif decide (319 < Int.ofNat X.length) then fF else bif K.N.KS X then bif !K.N.LB X then
    (bif decide (K.N.CL D X = 0) && (decide (K.N.CD D X = 0) && (decide (K.N.CR D X = 0) && (decide (K.N.CS D X = 0) && true))) then some (.bool (decide (Int.ofNat X.length = 4))) else fF)
    else (bif decide (0 ≤ K.N.LI X ∧ K.N.LI X < Int.ofNat X.length) then (match X[(K.N.LI X).toNat]? with | some v => en2 LV LE C2 C3 D (K.N.LI X) v X (K.N.CL D X) (K.N.CD D X) (K.N.CR D X) (K.N.CS D X) | none => none) else none) else none else none else none
noncomputable def enE (K : NK) (LV LE : Int → Int → Int → Int → Int) (C1 : Int → Int → List Int → Bool) (C2 : Int → Int → Int → Int → List Int → Int → Bool) (C3 : Int → Int → Int → List Int → Int → Bool) (d D : Int) (xs X : List Int) : Option V :=
  bif pB (textsL = textsL) then bif K.MK d xs then cond (codesB [(e1Lp, e1Lp)]) (bif decide ((0 : Int) = 0) && C1 D (Int.ofNat X.length) X then en1 K LV LE C2 C3 D X else none) none else none else none
theorem ends_eval (K : NK) (S : List Int → Bool) (LV LE : Int → Int → Int → Int → Int) (C1 : Int → Int → List Int → Bool) (C2 : Int → Int → Int → Int → List Int → Int → Bool) (C3 : Int → Int → Int → List Int → Int → Bool) (nn : Bool) (d : Int) (xs : List Int) :
    evalFn Tryd.prog (orcS K S (tabEn LV LE) plainL) (enL C1 C2 C3 nn) 100 8 Tryd.f8 [.int .u8 d, .gs 1] (gH ++ [.rs nn 1 (.ints .u8 xs)]) (fun v _ => some v) = enE K LV LE C1 C2 C3 d (d.tmod 4) xs (K.MD d xs true) := by cases nn <;> kernel_rfl
end Go.Proofs.YtnhilofmafjdpaaDoor

/- Chapter 9: the law AuctionTurned. -/
namespace Go.Proofs.YtnhilofmafjdpaaDoor
open Go Go.Eng
noncomputable def turnedE (MK : Int → List Int → Bool) (N : NA) (d D y D2 : Int) (xs X : List Int) : Option V :=
  bif pB (textsL = textsL) then bif MK d xs then bif N.K D X then bif N.K D2 X then bif !decide (wr .i64 (N.CE D X + N.CE D2 X) = 0) then some (.bool false) else
    bif decide (0 < N.CL D X) then some (.bool (decide (N.CL D X = N.CL D2 X) && (decide (N.CD D X = N.CD D2 X) && (decide (N.CR D X = N.CR D2 X) && (decide ((wr .u8 (N.CS D X + y)).tmod 4 = N.CS D2 X) && true)))))
    else some (.bool (decide (N.CL D X = N.CL D2 X) && (decide (N.CD D X = N.CD D2 X) && (decide (N.CR D X = N.CR D2 X) && (decide (N.CS D X = N.CS D2 X) && true))))) else none else none else none else none
theorem turned_eval (MK : Int → List Int → Bool) (MD : Int → List Int → Bool → List Int) (N : NA) (nn : Bool) (d b : Int) (xs : List Int) : evalFn Tryd.prog (orcM MK MD N emptyTab plainL) noLoops 100 4 Tryd.f4 [.int .u8 d, .gs 1, .int .u8 b] (gH ++ [.rs nn 1 (.ints .u8 xs)]) (fun v _ => some v) =
    turnedE MK N d (d.tmod 4) (b.tmod 4) ((wr .u8 (d.tmod 4 + b.tmod 4)).tmod 4) xs (MD d xs true) := by cases nn <;> kernel_rfl
theorem turned_fin {MK : Int → List Int → Bool} {N : NA} {d D y D2 : Int} {xs X : List Int} (h1 : MK d xs = true) (h2 : N.K D X = true) (h3 : N.K D2 X = true) (h4 : N.CE D X = 0) (h5 : N.CE D2 X = 0) (h6 : N.CL D X = N.CL D2 X) (h7 : N.CD D X = N.CD D2 X) (h8 : N.CR D X = N.CR D2 X)
    (h9 : 0 < N.CL D X → (wr .u8 (N.CS D X + y)).tmod 4 = N.CS D2 X) (h10 : ¬ 0 < N.CL D X → N.CS D X = N.CS D2 X) : turnedE MK N d D y D2 xs X = some (.bool true) := by
  unfold turnedE
  rw [pB_iff.2 rfl, h1, h2, h3, h4, h5, decide_eq_true h6, decide_eq_true h7, decide_eq_true h8]
  by_cases hl : 0 < N.CL D X
  · rw [decide_eq_true hl, decide_eq_true (h9 hl)]; rfl
  · rw [decide_eq_false hl, decide_eq_true (h10 hl)]; rfl
theorem shB_true {y : Int} {b : Bd} (h : b.m = true) : (shB y b).l = b.l ∧ (shB y b).d = b.d ∧ (shB y b).s = (b.s + y) % 4 := by
  unfold shB; rw [h]; exact ⟨rfl, rfl, rfl⟩
theorem ct_over {F : FR} (h : F.e = 0) (ho : ovr F.s = true) : ctE F = 0 ∧ ctM F = F.s.b.m := by
  unfold ctE ctM okU; rw [decide_eq_true h, ho]; exact ⟨rfl, rfl⟩
theorem turned_true (nn : Bool) {d b : Int} {xs : List Int} (hd : 0 ≤ d) (hb : 0 ≤ b) (hu : allU xs = true) : evalFn Tryd.prog (orcM mK made nA emptyTab plainL) noLoops 100 4 Tryd.f4 [.int .u8 d, .gs 1, .int .u8 b] (gH ++ [.rs nn 1 (.ints .u8 xs)]) (fun v _ => some v) = some (.bool true) := by
  have h4 := d4_range hd
  have y4 := d4_range hb
  obtain ⟨hok, _⟩ := made_ok hd hu true
  have hr := made_right hd hu true
  have ho := made_over hd hu
  have hD2 : (wr .u8 (d.tmod 4 + b.tmod 4)).tmod 4 = (d.tmod 4 + b.tmod 4) % 4 := by
    rw [wr_u8_id (by omega), Int.tmod_eq_emod_of_nonneg (by omega)]
  rw [turned_eval, hD2]
  generalize hX : made d xs true = X at hok hr ho
  generalize hDD : d.tmod 4 = D at *
  generalize hyy : b.tmod 4 = y at *
  have hU := okA_U hok
  obtain ⟨r1, r2⟩ := fol_rel (y := y) (d := D) h4 y4 hU
  have r2 := r2 hr
  rw [hr] at r1
  have hok2 : okA ((D + y) % 4) X = true := by
    simp only [okA, Bool.and_eq_true, decide_eq_true_eq] at hok ⊢
    exact ⟨by omega, hok.2⟩
  have hMK : mK d xs = true := by unfold mK; rw [hu, decide_eq_true hd]; rfl
  have ho2 : ovr (fol ((D + y) % 4) X).s = true := by rw [r2.ovr]; exact ho
  obtain ⟨ce, cm⟩ := ct_over hr ho
  obtain ⟨ce2, cm2⟩ := ct_over r1 ho2
  rw [r2.b, shB_m] at cm2
  have iv := inv_fol hok hr
  cases hm : (fol D X).s.b.m with
  | false =>
    rw [hm] at cm cm2
    have z : ∀ F : FR, ctM F = false → ctL F = 0 ∧ ctD F = 0 ∧ ctR F = 0 ∧ ctS F = 0 := fun F h => by
      unfold ctL ctD ctR ctS okU; rw [h]; exact ⟨rfl, rfl, rfl, rfl⟩
    obtain ⟨a1, a2, a3, a4⟩ := z _ cm
    obtain ⟨c1, c2, c3, c4⟩ := z _ cm2
    exact turned_fin hMK hok hok2 ce ce2 (a1.trans c1.symm) (a2.trans c2.symm) (a3.trans c3.symm) (fun h => by have h' : 0 < ctL (fol D X) := h; rw [a1] at h'; omega) (fun _ => a4.trans c4.symm)
  | true =>
    rw [hm] at cm cm2
    obtain ⟨⟨b1, b2, b3, b4⟩, b5⟩ := iv.b hm
    have hlv := lv_pos b1
    obtain ⟨s1, s2, s3⟩ := shB_true (y := y) hm
    have hdr := iv.g.2.2
    have hk : kOf (((fol D X).s.b.s + y) % 4) (fol D X).s.b.d = ((fol D X).s.b.s.toNat % 2 + y.toNat) % 2 * 5 + (fol D X).s.b.d.toNat := by unfold kOf; omega
    have hf := r2.f ((fol D X).s.b.s.toNat % 2) (fol D X).s.b.d.toNat (by omega) (by omega)
    have hfr := (iv.f _ (kOf_lt hdr) b5).1.2.2.2
    have z : ∀ F : FR, ctM F = true → ctL F = F.s.b.l ∧ ctD F = F.s.b.d ∧ ctR F = F.s.risk ∧ ctS F = (F.s.fst (kOf F.s.b.s F.s.b.d)).s := fun F h => by
      unfold ctL ctD ctR ctS okU; rw [h]; exact ⟨rfl, rfl, rfl, rfl⟩
    obtain ⟨a1, a2, a3, a4⟩ := z _ cm
    obtain ⟨c1, c2, c3, c4⟩ := z _ cm2
    rw [r2.b, s1] at c1
    rw [r2.b, s2] at c2
    rw [r2.risk] at c3
    have hk0 : (fol D X).s.b.s.toNat % 2 * 5 + (fol D X).s.b.d.toNat = kOf (fol D X).s.b.s (fol D X).s.b.d := rfl
    rw [r2.b, s2, s3, hk, hf, hk0, (shB_true (y := y) b5).2.2] at c4
    refine turned_fin hMK hok hok2 ce ce2 (a1.trans c1.symm) (a2.trans c2.symm) (a3.trans c3.symm) (fun _ => ?_) (fun h => absurd (show 0 < ctL (fol D X) by rw [a1, b2]; omega) h)
    show (wr .u8 (ctS (fol D X) + y)).tmod 4 = ctS (fol ((D + y) % 4) X)
    rw [a4, c4, wr_u8_id (by omega), Int.tmod_eq_emod_of_nonneg (by omega)]
end Go.Proofs.YtnhilofmafjdpaaDoor
