/- Texts merged: Kit3, Wrg. -/
import Derived.Test.YtnhilofmafjdpaaDoorKit2
import Derived.Test.YtnhilofmafjdpaaDoorTrn
import Derived.Test.YtnhilofmafjdpaaDoorHist
/- Chapter 9: the helpers as contracts beside the others. -/
namespace Go.Proofs.YtnhilofmafjdpaaDoor
open Go Go.Eng
structure NK where
  EQ : List Int → List Int → Bool
  ES : List ByteArray → List ByteArray → Bool
  IX : Int → List Int → Int
  KL : List Int → Bool
  KB : List ByteArray → Bool
  MK : Int → List Int → Bool
  MD : Int → List Int → Bool → List Int
  N : NA
def lenB (xs : List ByteArray) : Bool := decide (xs.length ≤ 1000000)
def nK : NK := ⟨eqI, eqS, fun c xs => idxR c xs 0, lenT, lenB, mK, made, nA⟩
def gSb (K : NK) : List V → List Blk → Option (Bool × V × List Blk)
  | [.gs 0, .gs 1], [.rs _ 1 (.ints .u8 xs), .rs _ 1 (.ints .u8 ys)] => some (K.KL xs, .bool (K.EQ xs ys), [])
  | _, _ => none
def gSs (K : NK) : List V → List Blk → Option (Bool × V × List Blk)
  | [.gs 0, .gs 1], [.rs _ 1 (.strs xs), .rs _ 1 (.strs ys)] => some (K.KB xs, .bool (K.ES xs ys), [])
  | _, _ => none
def gIx (K : NK) : List V → List Blk → Option (Bool × V × List Blk)
  | [.gs 0, .int .u8 c], [.rs _ 1 (.ints .u8 xs)] => some (K.KL xs, .int .i64 (K.IX c xs), [])
  | _, _ => none
def gCl (K : NK) : List V → List Blk → Option (Bool × V × List Blk)
  | [.gs 0], [.rs _ 1 (.ints .u8 xs)] => some (K.KL xs, .gs 1, [.grow false 5 1 (.ints .u8 xs)])
  | _, _ => none
noncomputable def hTabK (K : NK) : HTab := addH 30 (gSb K) (addH 34 (gSs K) (addH 51 (gIx K) (addH 17 (gCl K) (hTabM K.MK K.MD K.N))))
def domK : FuncId → Bool := fun f => Nat.beq f 30 || (Nat.beq f 34 || (Nat.beq f 51 || (Nat.beq f 17 || domM f)))
def nrK : FuncId → Option Row := fun f => bif Nat.beq f 34 then some (.strs []) else some (.ints .u8 [])
theorem hTabK_ok : HTabOk Tryd.prog (hTabK nK) := by
  refine addH_ok ?_ (addH_ok ?_ (addH_ok ?_ (addH_ok ?_ hTabM_ok)))
  · intro args h c v nb hq hc
    unfold gSb at hq
    split at hq
    · cases hq; exact ⟨.of Tryd.func30 (by kernel_rfl), by rw [List.append_nil]; exact sb_fn _ _ hc⟩
    · cases hq
  · intro args h c v nb hq hc
    unfold gSs at hq
    split at hq
    · cases hq
      have hc : lenB _ = true := hc
      simp only [lenB, decide_eq_true_eq] at hc
      exact ⟨.of Tryd.func34 (by kernel_rfl), by rw [List.append_nil]; exact ss_fn _ _ hc⟩
    · cases hq
  · intro args h c v nb hq hc
    unfold gIx at hq
    split at hq
    · cases hq; exact ⟨.of Tryd.func51 (by kernel_rfl), by rw [List.append_nil]; exact ix_fn _ hc⟩
    · cases hq
  · intro args h c v nb hq hc
    unfold gCl at hq
    split at hq
    · cases hq; exact ⟨.of Tryd.func17 (by kernel_rfl), clone_fn _ hc⟩
    · cases hq
def isCl : FuncId → Bool := fun f => Nat.beq f 17
noncomputable abbrev orcK (K : NK) (T : PTab) (LL : FuncId → Loops) : Oracle := inl Tryd.prog ftab T LL 100 never domK (orElse isCl (hOrcP nrK (hTabK K)) (hOrcN glA nrK (hTabK K))) 20
theorem orcK_ok {T : PTab} (hT : PTabOk Tryd.prog T) {LL : FuncId → Loops} (hL : ∀ f, loopsOk Tryd.prog (LL f)) : OracleOk Tryd.prog (orcK nK T LL) := inl_ok (orElse_ok (hOrcP_ok hTabK_ok) (hOrcN_ok hTabK_ok)) ftab_ok hT hL mixed 20
/-! ### AuctionLegal: its loop -/
noncomputable def lwLp : Code := loopOf 6 Tryd.f7
def lwT (nn : Bool) : Tm := ⟨mkS [(6, .bool), (7, .int .u8), (8, .gs 2), (9, .gs 3), (10, .int .i64), (29, .int .i64)] 0 84, [.glob 0 strsT, .rs nn 1 u8s, .grow false 5 1 u8s, .grow false 5 1 u8s], []⟩
def lwX (nn : Bool) : Tm := ⟨mkS [(6, .bool), (9, .gs 2), (10, .int .i64)] 0 84, [.glob 0 strsT, .rs nn 1 u8s, .grow false 5 1 u8s], []⟩
end Go.Proofs.YtnhilofmafjdpaaDoor

/- Chapter 9: the law AuctionWrong. -/
namespace Go.Proofs.YtnhilofmafjdpaaDoor
open Go Go.Eng
noncomputable def wg1 (K : NK) (D : Int) (A : List Int) (L E0 : Int) (Z : Option V) : Option V :=
  bif K.N.K D A then bif K.N.K D A then bif pB (textsL = textsL) && (K.N.K D A && K.N.KT A) then bif !decide (K.N.A D A = L) then some (.bool false) else bif !decide (K.N.E D A = E0) then some (.bool false) else bif !decide (K.N.TV D A = 0) then some (.bool false) else
  bif !decide (K.N.TE D A = 2) then some (.bool false) else bif !decide (Int.ofNat (K.N.BV D A).length = 0) then some (.bool false) else bif !decide (K.N.BE D A = 2) then some (.bool false) else Z else none else none else none
noncomputable def wg0 (K : NK) (D c E0 : Int) (X more : List Int) (m : Nat) (Z : Option V) : Option V :=
  bif K.KL X then bif decide ((X ++ [c]).length * 2 ≤ 70368744177664) then bif decide (0 + m ≤ more.length) then bif decide ((X ++ [c] ++ List.take m more).length * 2 ≤ 70368744177664) then
  wg1 K D (X ++ [c] ++ List.take m more) (Int.ofNat X.length) E0 Z else none else none else none else none
noncomputable def wg3 (K : NK) (e : Int) (X : List Int) : Option V :=
  bif K.N.K e X then bif K.N.K e X then bif K.N.K e X then bif decide (K.N.A e X = -1) then bif decide (K.N.E e X = 2) then bif decide (K.N.OE e X = 2) then bif decide (K.N.CE e X = 2) then
  some (.bool (decide (K.N.CL e X = 0) && (decide (K.N.CD e X = 0) && (decide (K.N.CR e X = 0) && (decide (K.N.CS e X = 0) && true))))) else some (.bool false) else some (.bool false) else some (.bool false) else some (.bool false) else none else none else none
noncomputable def wg4 (K : NK) (D b n : Int) (P : List Int) (a : Int) (Z : Option V) : Option V :=
  bif decide (b = 0) then none else bif decide ((P ++ [wr .u8 (3 + n.tmod b)]).length * 2 ≤ 70368744177664) then bif K.N.K D (P ++ [wr .u8 (3 + n.tmod b)]) then
  bif !decide (K.N.A D (P ++ [wr .u8 (3 + n.tmod b)]) = a) then some (.bool false) else bif !decide (K.N.E D (P ++ [wr .u8 (3 + n.tmod b)]) = 2) then some (.bool false) else Z else none else none
noncomputable def wg2 (K : NK) (D n : Int) (X : List Int) (Z : Option V) : Option V :=
  bif K.N.KS X then bif K.N.LB X then bif decide (0 ≤ (0 : Int) ∧ 0 ≤ wr .i64 (K.N.LI X + 1) ∧ wr .i64 (K.N.LI X + 1) ≤ Int.ofNat X.length) then bif decide (0 + ((wr .i64 (K.N.LI X + 1)).toNat - 0) ≤ X.length) then
  bif K.KL (List.take ((wr .i64 (K.N.LI X + 1)).toNat - 0) (List.drop 0 X)) then bif decide (0 ≤ K.N.LI X ∧ K.N.LI X < Int.ofNat X.length) then
  (match X[(K.N.LI X).toNat]? with | some v => wg4 K D (wr .u8 (v - 2)) n (List.take ((wr .i64 (K.N.LI X + 1)).toNat - 0) (List.drop 0 X)) (wr .i64 (K.N.LI X + 1)) Z | none => none) else none else none else none else none else Z else none
noncomputable def mnI (l : List Int) : Int := foldI minI (Int.ofNat l.length) [20]
noncomputable def wgE (K : NK) (d n : Int) (xs more : List Int) : Option V :=
  bif pB (textsL = textsL) then bif K.MK d xs then bif decide (0 ≤ (0 : Int) ∧ 0 ≤ mnI more ∧ mnI more ≤ Int.ofNat more.length) then
  wg0 K (d.tmod 4) (n.tmod 38) 90 (K.MD d xs true) more ((mnI more).toNat - 0) (wg0 K (d.tmod 4) (wr .u8 (38 + n.tmod 218)) 80 (K.MD d xs true) more ((mnI more).toNat - 0)
    (wg2 K (d.tmod 4) n (K.MD d xs true) (wg3 K (wr .u8 (4 + n.tmod 252)) (K.MD d xs true)))) else none else none else none
theorem wrong_eval (K : NK) (nn mm : Bool) (d n : Int) (xs more : List Int) : evalFn Tryd.prog (orcK K emptyTab plainL) noLoops 100 6 Tryd.f6 [.int .u8 d, .gs 1, .int .u8 n, .gs 2] (gH ++ [.rs nn 1 (.ints .u8 xs), .rs mm 1 (.ints .u8 more)]) (fun v _ => some v) = wgE K d n xs more := by
  cases nn <;> cases mm <;> kernel_rfl
theorem mnI_is (l : List Int) : mnI l = ((min l.length 20 : Nat) : Int) := by
  unfold mnI
  simp only [foldI, minI]
  by_cases h : (20 : Int) < Int.ofNat l.length
  · rw [decide_eq_true h]
    have h : 20 < (l.length : Int) := h
    show (20 : Int) = _
    omega
  · rw [decide_eq_false h]
    have h : ¬ 20 < (l.length : Int) := h
    show (l.length : Int) = _
    omega
theorem wg1_true {K : NK} {D L E0 : Int} {A : List Int} {Z : Option V} (h1 : K.N.K D A = true) (h2 : K.N.KT A = true) (h3 : K.N.A D A = L) (h4 : K.N.E D A = E0) (h5 : K.N.TV D A = 0) (h6 : K.N.TE D A = 2) (h7 : K.N.BV D A = []) (h8 : K.N.BE D A = 2) : wg1 K D A L E0 Z = Z := by
  unfold wg1
  rw [h1, h2, h3, h4, h5, h6, h7, h8, pB_iff.2 rfl]
  simp
/-- Behind a list that is no auction there is no turn, no table. -/
theorem bad_all {F : FR} (h : F.e ≠ 0) (d : Int) (xs : List Int) : tnV F = 0 ∧ tnE F = 2 ∧ tblV F d xs = [] ∧ tblE F = 2 ∧ ovE F = 2 ∧ ctE F = 2 ∧ ctL F = 0 ∧ ctD F = 0 ∧ ctR F = 0 ∧ ctS F = 0 := by
  unfold tnV tnE tblV tblE ovE ctE ctL ctD ctR ctS ctM okU
  rw [decide_eq_false h]
  exact ⟨rfl, rfl, rfl, rfl, rfl, rfl, rfl, rfl, rfl, rfl⟩
theorem okA_cat {d : Int} {l r : List Int} (h : okA d l = true) (hl : l.length ≤ 1000) (hr : allU r = true) (hn : r.length ≤ 1000) : okA d (l ++ r) = true := by
  have hu := okA_U h
  simp only [okA, smallL, Bool.and_eq_true, decide_eq_true_eq] at h ⊢
  refine ⟨h.1, by rw [List.length_append]; omega, ?_⟩
  rw [allU_iff] at hu hr ⊢
  intro x hx
  rcases List.mem_append.1 hx with hx | hx
  · exact hu x hx
  · exact hr x hx
theorem wg0_true {D c E0 : Int} {X more : List Int} {m : Nat} {Z : Option V} (hk : okA D X = true) (hl : X.length ≤ 319) (hr : (fol D X).e = 0) (hc : 0 ≤ c ∧ c < 256) (hm : m ≤ 20) (hmm : m ≤ more.length) (hu : allU more = true) (hE : chk (fol D X).s c = E0) (h0 : E0 ≠ 0) :
    wg0 nK D c E0 X more m Z = Z := by
  have hur : allU (c :: List.take m more) = true := by
    rw [allU_iff] at hu ⊢
    intro x hx
    rcases List.mem_cons.1 hx with rfl | hx
    · exact hc
    · exact hu x (List.mem_of_mem_take hx)
  have hln : (List.take m more).length ≤ 20 := by rw [List.length_take]; omega
  have hA : X ++ [c] ++ List.take m more = X ++ c :: List.take m more := by simp
  have hok := okA_cat hk (by omega) hur (by simp only [List.length_cons]; omega)
  obtain ⟨f1, f2⟩ := fol_bad hr (by rw [hE]; exact h0) (List.take m more)
  have hE2 : (fol D (X ++ c :: List.take m more)).e = E0 := f1.trans hE
  obtain ⟨b1, b2, b3, b4, _⟩ := bad_all (by rw [hE2]; exact h0 : (fol D (X ++ c :: List.take m more)).e ≠ 0) D (X ++ c :: List.take m more)
  unfold wg0
  have h1 : nK.KL X = true := decide_eq_true (by omega)
  rw [h1, decide_eq_true (show (X ++ [c]).length * 2 ≤ 70368744177664 by simp only [List.length_append, List.length_singleton]; omega), decide_eq_true (show 0 + m ≤ more.length by omega),
    decide_eq_true (show (X ++ [c] ++ List.take m more).length * 2 ≤ 70368744177664 by simp only [List.length_append, List.length_singleton]; omega), hA]
  simp only [cond_true]
  exact wg1_true hok (decide_eq_true (by simp only [List.length_append, List.length_cons]; omega)) f2 hE2 b1 b2 b3 b4
theorem wg3_true {e : Int} {X : List Int} (hu : allU X = true) (hl : X.length ≤ 319) (he : 4 ≤ e) : wg3 nK e X = some (.bool true) := by
  have hk : nK.N.K e X = true := by
    show okA e X = true
    simp only [okA, smallL, Bool.and_eq_true, decide_eq_true_eq]
    exact ⟨by omega, by omega, hu⟩
  have hf := fol_high (d := e) (by omega) X
  have h1 : nK.N.A e X = -1 := by show (fol e X).at_ = _; rw [hf]
  have h2 : nK.N.E e X = 2 := by show (fol e X).e = _; rw [hf]
  obtain ⟨_, _, _, _, b5, b6, b7, b8, b9, b10⟩ := bad_all (by rw [hf]; exact (by omega : (2 : Int) ≠ 0) : (fol e X).e ≠ 0) e X
  have h3 : nK.N.OE e X = 2 := b5
  have h4 : nK.N.CE e X = 2 := b6
  have h5 : nK.N.CL e X = 0 := b7
  have h6 : nK.N.CD e X = 0 := b8
  have h7 : nK.N.CR e X = 0 := b9
  have h8 : nK.N.CS e X = 0 := b10
  unfold wg3
  rw [hk, h1, h2, h3, h4, h5, h6, h7, h8]; rfl
theorem wg2_true {D n : Int} {X : List Int} {Z : Option V} (hk : okA D X = true) (hl : X.length ≤ 319) (hr : (fol D X).e = 0) (hn : 0 ≤ n ∧ n < 256) : wg2 nK D n X Z = Z := by
  have hu := okA_U hk
  have h1 : nK.N.KS X = true := by show smallL X = true; simp only [okA, Bool.and_eq_true] at hk; exact hk.2.1
  unfold wg2
  rw [h1]
  simp only [cond_true]
  cases hb : nK.N.LB X with
  | false => rfl
  | true =>
    obtain ⟨k, hk1, hk2, hk3, _⟩ := lastN_some (xs := X) X.length hb
    have hLI : nK.N.LI X = (k : Int) := hk2
    have ew : wr .i64 ((k : Int) + 1) = ((k + 1 : Nat) : Int) := by rw [wr64 (by omega) (by omega)]; omega
    have et : ((k + 1 : Nat) : Int).toNat - 0 = k + 1 := by omega
    have ei : X[((k : Int)).toNat]? = some (X.getD k 0) := by
      rw [Int.toNat_natCast, List.getD_eq_getElem?_getD, List.getElem?_eq_getElem hk1]; rfl
    have hbd := hk3
    simp only [isBid, Bool.and_eq_true, decide_eq_true_eq] at hbd
    rw [hLI, ew, et, ei, decide_eq_true (show 0 ≤ (0 : Int) ∧ 0 ≤ ((k + 1 : Nat) : Int) ∧ ((k + 1 : Nat) : Int) ≤ Int.ofNat X.length by refine ⟨by omega, by omega, ?_⟩; show _ ≤ (X.length : Int); omega), decide_eq_true (show 0 + (k + 1) ≤ X.length by omega),
      decide_eq_true (show 0 ≤ (k : Int) ∧ (k : Int) < Int.ofNat X.length by refine ⟨by omega, ?_⟩; show _ < (X.length : Int); omega), show nK.KL (List.take (k + 1) (List.drop 0 X)) = true from decide_eq_true (by rw [List.drop_zero, List.length_take]; omega)]
    simp only [cond_true, List.drop_zero]
    have eb : wr .u8 (X.getD k 0 - 2) = X.getD k 0 - 2 := wr_u8_id (by omega)
    have hq : 0 ≤ n.tmod (X.getD k 0 - 2) ∧ n.tmod (X.getD k 0 - 2) < X.getD k 0 - 2 := ⟨Int.tmod_nonneg _ (by omega), Int.tmod_lt_of_pos _ (by omega)⟩
    have ec : wr .u8 (3 + n.tmod (X.getD k 0 - 2)) = 3 + n.tmod (X.getD k 0 - 2) := wr_u8_id (by omega)
    obtain ⟨f1, f2⟩ := fol_low (d := D) (x := 3 + n.tmod (X.getD k 0 - 2)) hr hk1 hk3 (by omega)
    rw [eb]
    unfold wg4
    rw [ec, decide_eq_false (show ¬ X.getD k 0 - 2 = 0 by omega)]
    have hok : okA D (X.take (k + 1)) = true := by
      simp only [okA, smallL, Bool.and_eq_true, decide_eq_true_eq] at hk ⊢
      refine ⟨hk.1, by rw [List.length_take]; omega, ?_⟩
      rw [allU_iff] at hu ⊢
      exact fun x hx => hu x (List.mem_of_mem_take hx)
    have hl2 : (X.take (k + 1)).length ≤ 319 := by rw [List.length_take]; omega
    rw [decide_eq_true (show (X.take (k + 1) ++ [3 + n.tmod (X.getD k 0 - 2)]).length * 2 ≤ 70368744177664 by rw [List.length_append, List.length_singleton]; omega),
      show nK.N.K D (X.take (k + 1) ++ [3 + n.tmod (X.getD k 0 - 2)]) = true from okA_snoc hok (by omega) (by omega),
      show nK.N.A D (X.take (k + 1) ++ [3 + n.tmod (X.getD k 0 - 2)]) = _ from f2, show nK.N.E D (X.take (k + 1) ++ [3 + n.tmod (X.getD k 0 - 2)]) = _ from f1, decide_eq_true rfl]
    rfl
theorem wrong_true (nn mm : Bool) {d n : Int} {xs more : List Int} (hd : 0 ≤ d) (hn : 0 ≤ n ∧ n < 256) (hu : allU xs = true) (hm : allU more = true) :
    evalFn Tryd.prog (orcK nK emptyTab plainL) noLoops 100 6 Tryd.f6 [.int .u8 d, .gs 1, .int .u8 n, .gs 2] (gH ++ [.rs nn 1 (.ints .u8 xs), .rs mm 1 (.ints .u8 more)]) (fun v _ => some v) = some (.bool true) := by
  obtain ⟨hok, _⟩ := made_ok hd hu true
  have hr := made_right hd hu true
  have ho := made_over hd hu
  have hl := right_len hok hr
  have hMK : nK.MK d xs = true := by show mK d xs = true; unfold mK; rw [hu, decide_eq_true hd]; rfl
  have q1 : 0 ≤ n.tmod 38 ∧ n.tmod 38 < 38 := ⟨Int.tmod_nonneg _ hn.1, Int.tmod_lt_of_pos _ (by omega)⟩
  have q2 : 0 ≤ n.tmod 218 ∧ n.tmod 218 < 218 := ⟨Int.tmod_nonneg _ hn.1, Int.tmod_lt_of_pos _ (by omega)⟩
  have q3 : 0 ≤ n.tmod 252 ∧ n.tmod 252 < 252 := ⟨Int.tmod_nonneg _ hn.1, Int.tmod_lt_of_pos _ (by omega)⟩
  rw [wrong_eval]
  unfold wgE
  rw [pB_iff.2 rfl, hMK, mnI_is, show nK.MD d xs true = made d xs true from rfl, decide_eq_true (show 0 ≤ (0 : Int) ∧ 0 ≤ ((min more.length 20 : Nat) : Int) ∧ ((min more.length 20 : Nat) : Int) ≤ Int.ofNat more.length by refine ⟨by omega, by omega, ?_⟩; show _ ≤ (more.length : Int); omega)]
  simp only [cond_true]
  rw [wg0_true hok hl hr (by omega) (by omega) (by omega) hm (chk_over ho (by omega)) (by omega), wg0_true hok hl hr (by rw [wr_u8_id (by omega)]; omega) (by omega) (by omega) hm (chk_big (by rw [wr_u8_id (by omega)]; omega)) (by omega),
    wg2_true hok hl hr hn, wg3_true (okA_U hok) hl (by rw [wr_u8_id (by omega)]; omega)]
end Go.Proofs.YtnhilofmafjdpaaDoor
