/- Texts merged: Yr, Ys, Yt0. -/
import Derived.Test.YtojlmpcbplepcaaYq
import Derived.Test.YtojlmpcbplepcaaSp2
/- Chapter 10: the law's next: what it answers. -/
namespace Go.Proofs.Ytojlmpcbplepcaa
open Go Go.Eng
def nxX (s : CD) (xs ac : List Int) (X W : Int) : Int := bif decide (W.tmod 3 = 2) && (decide (opI s xs ac = 0) && decide (0 < (lgV s xs ac).length)) then (lgV s xs ac).getD (X.tmod (lgV s xs ac).length).toNat 0 else X.tmod 40
def nxY (s : CD) (xs ac : List Int) (B W : Int) : Int := bif decide (W.tmod 3 = 2) then tuV s xs ac else bif decide (B.tmod 6 < 4) then (wr .u8 (tuV s xs ac + B.tmod 6)).tmod 4 else tuV s xs ac
def nxI (s : CD) (xs ac : List Int) (y x : Int) : Bool := decide (opI s xs ac = 0) && (decide (y = tuV s xs ac) && decide (doX s xs ac x = 0))
def nxS (s : CD) (xs ac : List Int) (W y x : Int) : CD := bif decide (W.tmod 3 = 0) then s else bif decide (rfX s xs ac y x = 0) then rfC s xs ac y x else s
noncomputable def nxF (s : CD) (xs ac : List Int) (W y x : Int) (K : NK) : AN := bif nxI s xs ac y x then K.A y x else bif decide (W.tmod 3 = 0) && decide ((acI s xs ac y x).e = 0) then K.B y x else K.C y x (nxS s xs ac W y x)
theorem tu_by (s : CD) (xs ac : List Int) : byB (tuV s xs ac) = true := by
  unfold tuV
  cases decide (opI s xs ac = 0) with
  | true => exact decide_eq_true (mk_range _ _)
  | false => rfl
theorem nxY_by (s : CD) (xs ac : List Int) (B W : Int) : byB (nxY s xs ac B W) = true := by
  unfold nxY
  cases decide (W.tmod 3 = 2) with
  | true => exact tu_by s xs ac
  | false =>
    rw [cond_false]
    cases decide (B.tmod 6 < 4) with
    | false => exact tu_by s xs ac
    | true =>
      have : 0 ≤ wr .u8 (tuV s xs ac + B.tmod 6) := wr_u8_nonneg _
      refine decide_eq_true ?_
      rw [cond_true, Int.tmod_eq_emod_of_nonneg this]; omega
theorem lg_by {s : CD} {xs ac : List Int} (i : Nat) : byB ((lgV s xs ac).getD i 0) = true := by
  rcases Nat.lt_or_ge i (lgV s xs ac).length with h | h
  · exact decide_eq_true (allU_iff.1 (okL_iff.1 (lgV_ok s xs ac)).2 _ (getD_mem h))
  · rw [List.getD_eq_getElem?_getD, List.getElem?_eq_none h]; rfl
theorem x40_by {X : Int} (h : byB X = true) : byB (X.tmod 40) = true := by
  have := by_rg h
  refine decide_eq_true ?_
  rw [Int.tmod_eq_emod_of_nonneg this.1]; omega
theorem nxX_by {s : CD} {xs ac : List Int} {X W : Int} (h : byB X = true) : byB (nxX s xs ac X W) = true := by
  unfold nxX
  cases (decide (W.tmod 3 = 2) && (decide (opI s xs ac = 0) && decide (0 < (lgV s xs ac).length))) with
  | true => exact lg_by _
  | false => exact x40_by h
theorem cTl_of {s : CD} {xs ac : List Int} (h : gTl s xs ac = true) : cTl s xs ac = true := by
  obtain ⟨hb, hu, hl, hm⟩ := gTl_iff.1 h
  have hok : okL xs = true := okL_iff.2 ⟨by omega, hu⟩
  unfold cTl; rw [hok, decide_eq_true (by omega), show lenOk ac = true from decide_eq_true (by omega), hb]; rfl
section
variable {s : CD} {xs ac : List Int} {X B W : Int} {de re : Bool} {K : NK}
theorem nxR_is (h : gTl s xs ac = true) {y x : Int} (hy : byB y = true) (hx : byB x = true) (hre : W.tmod 3 ≠ 0 → re = !decide (rfX s xs ac y x = 0)) :
    nxR nTl s xs ac W re K y x = bif decide (W.tmod 3 = 0) && decide ((acI s xs ac y x).e = 0) then K.B y x else K.C y x (nxS s xs ac W y x) := by
  have hC : nTl.C s xs ac = true := cTl_of h
  have hY : nTl.BY y = true := hy
  have hX : nTl.BY x = true := hx
  unfold nxR nxS
  rw [hC, hY, hX]
  by_cases hw : W.tmod 3 = 0
  · rw [decide_eq_true hw]
    show (bif !decide ((acI s xs ac y x).e = 0) then K.C y x s else K.B y x) = _
    cases decide ((acI s xs ac y x).e = 0) <;> rfl
  · rw [decide_eq_false hw, hre hw]
    show (match !decide (rfX s xs ac y x = 0) with | false => bif decide (rfX s xs ac y x = 0) then K.C y x (rfC s xs ac y x) else none | true => bif !decide (rfX s xs ac y x = 0) then bif !decide (rfX s xs ac y x = 0) then K.C y x s else K.Z y x else none) = K.C y x (bif decide (rfX s xs ac y x = 0) then rfC s xs ac y x else s)
    cases decide (rfX s xs ac y x = 0) <;> rfl
theorem nxT_is (h : gTl s xs ac = true) {y x : Int} (hy : byB y = true) (hx : byB x = true) (hde : opI s xs ac = 0 → y = tuV s xs ac → de = !decide (doX s xs ac x = 0)) (hre : nxI s xs ac y x = false → W.tmod 3 ≠ 0 → re = !decide (rfX s xs ac y x = 0)) :
    nxT nTl s xs ac W de re K y x = nxF s xs ac W y x K := by
  have hC : nTl.C s xs ac = true := cTl_of h
  have hX : nTl.BY x = true := hx
  unfold nxT nxF
  have hI : nxI s xs ac y x = (decide (opI s xs ac = 0) && (decide (y = tuV s xs ac) && decide (doX s xs ac x = 0))) := rfl
  rw [show nTl.OP s xs ac = opI s xs ac from rfl, show nTl.TV s xs ac = tuV s xs ac from rfl, hC, hX]
  by_cases h1 : opI s xs ac = 0
  · by_cases h2 : y = tuV s xs ac
    · rw [hde h1 h2]
      by_cases h3 : doX s xs ac x = 0
      · rw [hI, decide_eq_true h1, decide_eq_true h2, decide_eq_true h3]
        show (bif decide (doX s xs ac x = 0) then K.A y x else none) = _
        rw [decide_eq_true h3]; rfl
      · have hI2 : nxI s xs ac y x = false := by rw [hI, decide_eq_false h3]; simp
        rw [hI2, decide_eq_true h1, decide_eq_true h2, decide_eq_false h3, nxR_is h hy hx (hre hI2)]
        show (bif !decide (doX s xs ac x = 0) then bif decide (doX s xs ac x = 0) then K.Z y x else _ else none) = _
        rw [decide_eq_false h3]; rfl
    · have hI2 : nxI s xs ac y x = false := by rw [hI, decide_eq_false h2]; simp
      rw [hI2, decide_eq_true h1, decide_eq_false h2, nxR_is h hy hx (hre hI2)]; rfl
  · have hI2 : nxI s xs ac y x = false := by rw [hI, decide_eq_false h1]; rfl
    rw [hI2, decide_eq_false h1, nxR_is h hy hx (hre hI2)]; rfl
theorem nxAll_is (h : gTl s xs ac = true) (hX : byB X = true) (hde : opI s xs ac = 0 → nxY s xs ac B W = tuV s xs ac → de = !decide (doX s xs ac (nxX s xs ac X W) = 0)) (hre : nxI s xs ac (nxY s xs ac B W) (nxX s xs ac X W) = false → W.tmod 3 ≠ 0 → re = !decide (rfX s xs ac (nxY s xs ac B W) (nxX s xs ac X W) = 0)) :
    nxAll nTl s xs ac X B W de re K = nxF s xs ac W (nxY s xs ac B W) (nxX s xs ac X W) K := by
  have hC : nTl.C s xs ac = true := cTl_of h
  have hx := nxX_by (s := s) (xs := xs) (ac := ac) (W := W) hX
  have hy := nxY_by s xs ac B W
  have hX0 := by_rg hX
  have key := fun y x (e1 : nxY s xs ac B W = y) (e2 : nxX s xs ac X W = x) => nxT_is (de := de) (re := re) (W := W) (K := K) h (y := y) (x := x) (by rw [← e1]; exact hy) (by rw [← e2]; exact hx) (by rw [← e1, ← e2]; exact hde) (by rw [← e1, ← e2]; exact hre)
  have hw : ∀ y, nxY s xs ac B W = (bif decide (W.tmod 3 = 2) then tuV s xs ac else y) → nxW nTl s xs ac X W de re K y = nxF s xs ac W (nxY s xs ac B W) (nxX s xs ac X W) K := fun y ey => by
    unfold nxW
    rw [hC, show nTl.OP s xs ac = opI s xs ac from rfl, show nTl.LV s xs ac = lgV s xs ac from rfl, show nTl.TV s xs ac = tuV s xs ac from rfl]
    have ex : nxX s xs ac X W = bif decide (W.tmod 3 = 2) && (decide (opI s xs ac = 0) && decide (0 < (lgV s xs ac).length)) then (lgV s xs ac).getD (X.tmod (lgV s xs ac).length).toNat 0 else X.tmod 40 := rfl
    by_cases h2 : W.tmod 3 = 2
    · rw [decide_eq_true h2, cond_true] at ey
      rw [decide_eq_true h2] at ex ⊢
      by_cases ho : opI s xs ac = 0
      · rw [decide_eq_true ho] at ex ⊢
        have hof : Int.ofNat (lgV s xs ac).length = ((lgV s xs ac).length : Int) := rfl
        rcases Nat.eq_zero_or_pos (lgV s xs ac).length with hl | hl
        · rw [decide_eq_false (show ¬ 0 < (lgV s xs ac).length by omega)] at ex
          rw [hof, decide_eq_false (show ¬ 0 < ((lgV s xs ac).length : Int) by omega)]
          exact (key _ _ ey ex).trans (by rw [ey, ex])
        · rw [decide_eq_true hl] at ex
          have hm0 : 0 ≤ X.tmod ((lgV s xs ac).length : Int) := by rw [Int.tmod_eq_emod_of_nonneg hX0.1]; exact Int.emod_nonneg _ (by omega)
          have hm1 : X.tmod ((lgV s xs ac).length : Int) < ((lgV s xs ac).length : Int) := by rw [Int.tmod_eq_emod_of_nonneg hX0.1]; exact Int.emod_lt_of_pos _ (by omega)
          have en : X.tmod ((lgV s xs ac).length : Int) = ((X.tmod ((lgV s xs ac).length : Int)).toNat : Int) := by omega
          rw [hof, decide_eq_true (show 0 < ((lgV s xs ac).length : Int) by omega), decide_eq_false (show ¬ ((lgV s xs ac).length : Int) = 0 by omega), wr64 (n := X) (by omega) (by omega)]
          simp only [cond_true, cond_false]
          rw [en, atU_g (by omega)]
          exact (key _ _ ey ex).trans (by rw [ey, ex])
      · rw [decide_eq_false ho] at ex ⊢
        exact (key _ _ ey ex).trans (by rw [ey, ex])
    · rw [decide_eq_false h2, cond_false] at ey
      rw [decide_eq_false h2] at ex ⊢
      exact (key _ _ ey ex).trans (by rw [ey, ex])
  have eY : nxY s xs ac B W = bif decide (W.tmod 3 = 2) then tuV s xs ac else bif decide (B.tmod 6 < 4) then (wr .u8 (tuV s xs ac + B.tmod 6)).tmod 4 else tuV s xs ac := rfl
  unfold nxAll
  rw [hC, cond_true, show nTl.TV s xs ac = tuV s xs ac from rfl]
  by_cases hb : B.tmod 6 < 4
  · rw [decide_eq_true hb] at eY ⊢
    exact hw _ eY
  · rw [decide_eq_false hb] at eY ⊢
    exact hw _ eY
end
end Go.Proofs.Ytojlmpcbplepcaa

/- Chapter 10: the law's next: its contracts. -/
namespace Go.Proofs.Ytojlmpcbplepcaa
open Go Go.Eng
def actW (X B W : Int) : V := .agg [.int .u8 X, .int .u8 B, .int .u8 W]
section
variable (n1 n2 : Bool) {s : CD} {xs ac : List Int} {X B W : Int}
theorem f58A (h : gTl s xs ac = true) (hX : byB X = true) (hi : nxI s xs ac (nxY s xs ac B W) (nxX s xs ac X W) = true) :
    FnOK Try.prog 58 [.agg (s.vs (.gs 0) (.gs 1)), actW X B W] (crsH n1 n2 xs ac) (.tuple [.agg ((doC s xs ac (nxX s xs ac X W)).vs (.gs 2) (.gs 1)), .int .u8 (nxY s xs ac B W), .int .u8 (nxX s xs ac X W)]) (crsH n1 n2 xs ac ++ crsNk (doL s xs ac (nxX s xs ac X W))) := by
  have hi2 := hi
  unfold nxI at hi2
  simp only [Bool.and_eq_true, decide_eq_true_eq] at hi2
  refine fn_crs (fn_ans (T := nxA) (ps := (doC s xs ac (nxX s xs ac X W)).pv [.i (nxY s xs ac B W), .i (nxX s xs ac X W), .l xs, .l ac, .l (doL s xs ac (nxX s xs ac X W))]) (orcTl_ok false false) mixed Try.func58 noLoops_ok (by kernel_rfl)
    ((nx_A nTl s xs ac X B W).trans ((nxAll_is h hX (fun _ _ => by rw [hi2.2.2]; rfl) (fun hq => by rw [hi] at hq; cases hq)).trans ?_)) codesNil rfl)
  unfold nxF
  rw [hi]; rfl
theorem f58B (h : gTl s xs ac = true) (hX : byB X = true) (hi : nxI s xs ac (nxY s xs ac B W) (nxX s xs ac X W) = false) (hw : W.tmod 3 = 0) (ha : (acI s xs ac (nxY s xs ac B W) (nxX s xs ac X W)).e = 0) :
    FnOK Try.prog 58 [.agg (s.vs (.gs 0) (.gs 1)), actW X B W] (crsH n1 n2 xs ac) (.tuple [.agg ((acI s xs ac (nxY s xs ac B W) (nxX s xs ac X W)).s.vs (.gs 2) (.gs 3)), .int .u8 (nxY s xs ac B W), .int .u8 (nxX s xs ac X W)])
      (crsH n1 n2 xs ac ++ crsNb (acI s xs ac (nxY s xs ac B W) (nxX s xs ac X W)).ys (acI s xs ac (nxY s xs ac B W) (nxX s xs ac X W)).bc) := by
  have main : ∀ de, evNx nTl s xs ac X B W de false nxB = nxAll nTl s xs ac X B W de false (kB nTl s xs ac) → (opI s xs ac = 0 → nxY s xs ac B W = tuV s xs ac → de = !decide (doX s xs ac (nxX s xs ac X W) = 0)) →
      FnOK Try.prog 58 [.agg (s.vs (.gs 0) (.gs 1)), actW X B W] (crsH n1 n2 xs ac) (.tuple [.agg ((acI s xs ac (nxY s xs ac B W) (nxX s xs ac X W)).s.vs (.gs 2) (.gs 3)), .int .u8 (nxY s xs ac B W), .int .u8 (nxX s xs ac X W)])
      (crsH n1 n2 xs ac ++ crsNb (acI s xs ac (nxY s xs ac B W) (nxX s xs ac X W)).ys (acI s xs ac (nxY s xs ac B W) (nxX s xs ac X W)).bc) := fun de he hde => by
    refine fn_crs (fn_ans (T := nxB) (ps := (acI s xs ac (nxY s xs ac B W) (nxX s xs ac X W)).s.pv [.i (nxY s xs ac B W), .i (nxX s xs ac X W), .l xs, .l ac, .l (acI s xs ac (nxY s xs ac B W) (nxX s xs ac X W)).ys, .l (acI s xs ac (nxY s xs ac B W) (nxX s xs ac X W)).bc]) (orcTl_ok de false) mixed Try.func58 noLoops_ok (by kernel_rfl)
      (he.trans ((nxAll_is h hX hde (fun _ hq => absurd hw hq)).trans ?_)) codesNil rfl)
    unfold nxF
    rw [hi, decide_eq_true hw, decide_eq_true ha]; rfl
  cases hd : !decide (doX s xs ac (nxX s xs ac X W) = 0) with
  | false => exact main false (nx_B0 nTl s xs ac X B W) fun _ _ => hd.symm
  | true => exact main true (nx_B1 nTl s xs ac X B W) fun _ _ => hd.symm
theorem f58C (h : gTl s xs ac = true) (hX : byB X = true) (hi : nxI s xs ac (nxY s xs ac B W) (nxX s xs ac X W) = false) (hw : ¬ (W.tmod 3 = 0 ∧ (acI s xs ac (nxY s xs ac B W) (nxX s xs ac X W)).e = 0)) :
    FnOK Try.prog 58 [.agg (s.vs (.gs 0) (.gs 1)), actW X B W] (crsH n1 n2 xs ac) (.tuple [.agg ((nxS s xs ac W (nxY s xs ac B W) (nxX s xs ac X W)).vs (.gs 0) (.gs 1)), .int .u8 (nxY s xs ac B W), .int .u8 (nxX s xs ac X W)]) (crsH n1 n2 xs ac ++ []) := by
  have main : ∀ de re, evNx nTl s xs ac X B W de re nxC = nxAll nTl s xs ac X B W de re (kC xs ac) → (opI s xs ac = 0 → nxY s xs ac B W = tuV s xs ac → de = !decide (doX s xs ac (nxX s xs ac X W) = 0)) → re = (!decide (rfX s xs ac (nxY s xs ac B W) (nxX s xs ac X W) = 0)) →
      FnOK Try.prog 58 [.agg (s.vs (.gs 0) (.gs 1)), actW X B W] (crsH n1 n2 xs ac) (.tuple [.agg ((nxS s xs ac W (nxY s xs ac B W) (nxX s xs ac X W)).vs (.gs 0) (.gs 1)), .int .u8 (nxY s xs ac B W), .int .u8 (nxX s xs ac X W)]) (crsH n1 n2 xs ac ++ []) := fun de re he hde hre => by
    refine fn_crs (fn_ans (T := nxC) (ps := (nxS s xs ac W (nxY s xs ac B W) (nxX s xs ac X W)).pv [.i (nxY s xs ac B W), .i (nxX s xs ac X W), .l xs, .l ac]) (orcTl_ok de re) mixed Try.func58 noLoops_ok (by kernel_rfl)
      (he.trans ((nxAll_is h hX hde (fun _ _ => hre)).trans ?_)) codesNil rfl)
    unfold nxF
    have : (decide (W.tmod 3 = 0) && decide ((acI s xs ac (nxY s xs ac B W) (nxX s xs ac X W)).e = 0)) = false := by
      cases hq : (decide (W.tmod 3 = 0) && decide ((acI s xs ac (nxY s xs ac B W) (nxX s xs ac X W)).e = 0)) with
      | false => rfl
      | true =>
        simp only [Bool.and_eq_true, decide_eq_true_eq] at hq
        exact absurd hq hw
    rw [hi, this]; rfl
  cases hd : !decide (doX s xs ac (nxX s xs ac X W) = 0) <;> cases hr : !decide (rfX s xs ac (nxY s xs ac B W) (nxX s xs ac X W) = 0)
  · exact main false false (nx_C0 nTl s xs ac X B W) (fun _ _ => hd.symm) hr.symm
  · exact main false true (nx_C1 nTl s xs ac X B W) (fun _ _ => hd.symm) hr.symm
  · exact main true false (nx_C2 nTl s xs ac X B W) (fun _ _ => hd.symm) hr.symm
  · exact main true true (nx_C3 nTl s xs ac X B W) (fun _ _ => hd.symm) hr.symm
end
end Go.Proofs.Ytojlmpcbplepcaa

/- Chapter 10: the law's played: what it is walked with. -/
namespace Go.Proofs.Ytojlmpcbplepcaa
open Go Go.Eng
abbrev CF3 (α : Type) := CF (Int → Int → Int → α)
structure NPy where
  G : CF Bool
  BY : Int → Bool
  S : Nat → CF3 Bool
  R : Nat → CF3 CD
  L : Nat → CF3 (List Int)
  K : Nat → CF3 (List Int)
  Y : CF3 Int
  X : CF3 Int
def pyS (sh : Nat) : CF3 Bool := fun s xs ac X B W => byB X && match sh with
  | 0 => nxI s xs ac (nxY s xs ac B W) (nxX s xs ac X W)
  | 1 => !nxI s xs ac (nxY s xs ac B W) (nxX s xs ac X W) && (decide (W.tmod 3 = 0) && decide ((acI s xs ac (nxY s xs ac B W) (nxX s xs ac X W)).e = 0))
  | _ => !nxI s xs ac (nxY s xs ac B W) (nxX s xs ac X W) && !(decide (W.tmod 3 = 0) && decide ((acI s xs ac (nxY s xs ac B W) (nxX s xs ac X W)).e = 0))
def pyR (sh : Nat) : CF3 CD := fun s xs ac X B W => match sh with
  | 0 => doC s xs ac (nxX s xs ac X W)
  | 1 => (acI s xs ac (nxY s xs ac B W) (nxX s xs ac X W)).s
  | _ => nxS s xs ac W (nxY s xs ac B W) (nxX s xs ac X W)
def pyL (sh : Nat) : CF3 (List Int) := fun s xs ac X B W => match sh with
  | 0 => doL s xs ac (nxX s xs ac X W)
  | 1 => (acI s xs ac (nxY s xs ac B W) (nxX s xs ac X W)).ys
  | _ => xs
def pyK (sh : Nat) : CF3 (List Int) := fun s xs ac X B W => match sh with
  | 1 => (acI s xs ac (nxY s xs ac B W) (nxX s xs ac X W)).bc
  | _ => ac
def nPy : NPy := ⟨gTl, byB, pyS, pyR, pyL, pyK, fun s xs ac _ B W => nxY s xs ac B W, fun s xs ac X _ W => nxX s xs ac X W⟩
def g58 (N : NPy) (sh : Nat) : CH
  | [.agg l, .agg [.int .u8 X, .int .u8 B, .int .u8 W]], [.rs _ 1 (.ints .u8 xs), .rs _ 1 (.ints .i64 ac)] => match ofCrs l with
    | some (s, .gs 0, .gs 1) => match sh with
      | 0 => some (N.G s xs ac && N.S 0 s xs ac X B W, .tuple [.agg ((N.R 0 s xs ac X B W).vs (.gs 2) (.gs 1)), .int .u8 (N.Y s xs ac X B W), .int .u8 (N.X s xs ac X B W)], crsNk (N.L 0 s xs ac X B W))
      | 1 => some (N.G s xs ac && N.S 1 s xs ac X B W, .tuple [.agg ((N.R 1 s xs ac X B W).vs (.gs 2) (.gs 3)), .int .u8 (N.Y s xs ac X B W), .int .u8 (N.X s xs ac X B W)], crsNb (N.L 1 s xs ac X B W) (N.K 1 s xs ac X B W))
      | _ => some (N.G s xs ac && N.S 2 s xs ac X B W, .tuple [.agg ((N.R 2 s xs ac X B W).vs (.gs 0) (.gs 1)), .int .u8 (N.Y s xs ac X B W), .int .u8 (N.X s xs ac X B W)], [])
    | _ => none
  | _, _ => none
theorem g58_ok (sh : Nat) : cOk 58 (g58 nPy sh) := by
  intro args hp c v nb hq hc
  unfold g58 at hq
  split at hq
  · split at hq
    · rename_i s hs
      rw [ofCrs_ok hs]
      split at hq
      · cases hq
        obtain ⟨h1, h2⟩ := and_ok hc
        obtain ⟨h3, h4⟩ := and_ok h2
        exact ⟨.of Try.func58 (by kernel_rfl), f58A _ _ h1 h3 h4⟩
      · cases hq
        obtain ⟨h1, h2⟩ := and_ok hc
        obtain ⟨h3, h4⟩ := and_ok h2
        obtain ⟨h5, h6⟩ := and_ok h4
        obtain ⟨h7, h8⟩ := and_ok h6
        exact ⟨.of Try.func58 (by kernel_rfl), f58B _ _ h1 h3 (by simpa using h5) (of_decide_eq_true h7) (of_decide_eq_true h8)⟩
      · cases hq
        obtain ⟨h1, h2⟩ := and_ok hc
        obtain ⟨h3, h4⟩ := and_ok h2
        obtain ⟨h5, h6⟩ := and_ok h4
        refine ⟨.of Try.func58 (by kernel_rfl), f58C _ _ h1 h3 (by simpa using h5) ?_⟩
        rintro ⟨h7, h8⟩
        rw [decide_eq_true h7, decide_eq_true h8] at h6
        cases h6
    · cases hq
  · cases hq
def F59 (N : NPy) : CF (Int → Int → CA) := fun s xs ac y x => (N.G s xs ac && (N.BY y && N.BY x), .bool true, [])
theorem g59_ok : cOk 59 (gC2 (F59 nPy)) := gC2_ok (.of Try.func59 (by kernel_rfl)) fun n1 n2 s xs ac y x h => by
  obtain ⟨h1, h2⟩ := and_ok h
  exact f59 n1 n2 h1 (and_ok h2).1 (and_ok h2).2
def h27 (N : NPy) (sh : Nat) : HTab := addH 58 (g58 N sh) (addH 59 (gC2 (F59 N)) emptyH)
theorem h27_ok (sh : Nat) : HTabOk Try.prog (h27 nPy sh) := addH_ok (g58_ok sh) (addH_ok g59_ok emptyH_ok)
def is58 : FuncId → Bool := fun f => Nat.beq f 58
def d27 : FuncId → Bool := fun f => Nat.beq f 58 || Nat.beq f 59
noncomputable abbrev orcPy (N : NPy) (sh : Nat) : Oracle := inl Try.prog ftab emptyTab plainL 100 never d27 (orElse is58 (hOrcS nrC (h27 N sh)) (hOrcX nrC (h27 N sh))) 20
theorem orcPy_ok (sh : Nat) : OracleOk Try.prog (orcPy nPy sh) := inl_ok (orElse_ok (hOrcS_ok (h27_ok sh)) (hOrcX_ok (h27_ok sh))) ftab_ok emptyTab_ok plainL_ok mixed 20
noncomputable def pyLp : Code := loopOf 2 Try.f27
def pyBk : List TB := [.rs false 3 (.ints .u8), .own 59 (.vs (crsT (.gs 2) (.gs 3))), .grow false 5 1 (.ints .u8), .grow false 3 1 (.ints .i64)]
def pyT : Tm := ⟨mkS [(2, .ptr 1 0), (10, .gs 0), (11, .int .i64), (12, .int .i64)] 0 32, pyBk, []⟩
def pyX : Tm := ⟨mkS [(2, .ptr 1 0)] 0 32, pyBk, []⟩
def pyIn (n i : Int) (ws : List Int) (s : CD) (xs ac : List Int) : List PV := .i n :: .i i :: .l ws :: s.pv [.l xs, .l ac]
end Go.Proofs.Ytojlmpcbplepcaa
