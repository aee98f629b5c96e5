/- Chapter 10: the law's next: what it answers. -/
import Derived.Test.YtojlmpcbplepcaaGreatYq
namespace Go.Proofs.YtojlmpcbplepcaaGreat
open Go Go.Eng
def nxX (s : CD) (xs ac : List Int) (X W : Int) : Int := bif decide (W.tmod 3 = 2) && (decide (opI s xs ac = 0) && decide (0 < (lgV s xs ac).length)) then (lgV s xs ac).getD (X.tmod (lgV s xs ac).length).toNat 0 else X.tmod 40
def nxY (s : CD) (xs ac : List Int) (B W : Int) : Int := bif decide (W.tmod 3 = 2) then tuV s xs ac else bif decide (B.tmod 6 < 4) then (wr .u8 (tuV s xs ac + B.tmod 6)).tmod 4 else tuV s xs ac
def nxI (s : CD) (xs ac : List Int) (y x : Int) : Bool := decide (opI s xs ac = 0) && (decide (y = tuV s xs ac) && decide (doX s xs ac x = 0))
def nxS (s : CD) (xs ac : List Int) (W y x : Int) : CD := bif decide (W.tmod 3 = 0) then s else bif decide (rfX s xs ac y x = 0) then rfC s xs ac y x else s
noncomputable def nxF (s : CD) (xs ac : List Int) (W y x : Int) (K : NK) : AN := bif nxI s xs ac y x then K.A y x else bif decide (W.tmod 3 = 0) && decide ((acI s xs ac y x).e = 0) then K.B y x else K.C y x (nxS s xs ac W y x)
theorem tu_by (s : CD) (xs ac : List Int) : byB (tuV s xs ac) = true := by
  unfold tuV
  cases decide (opI s xs ac = 0) with
  | true => exact decide_eq_true (mk_range _ _)
  | false => rfl
theorem nxY_by (s : CD) (xs ac : List Int) (B W : Int) : byB (nxY s xs ac B W) = true := by
  unfold nxY
  cases decide (W.tmod 3 = 2) with
  | true => exact tu_by s xs ac
  | false =>
    rw [cond_false]
    cases decide (B.tmod 6 < 4) with
    | false => exact tu_by s xs ac
    | true =>
      have : 0 ≤ wr .u8 (tuV s xs ac + B.tmod 6) := wr_u8_nonneg _
      refine decide_eq_true ?_
      rw [cond_true, Int.tmod_eq_emod_of_nonneg this]; omega
theorem lg_by {s : CD} {xs ac : List Int} (i : Nat) : byB ((lgV s xs ac).getD i 0) = true := by
  rcases Nat.lt_or_ge i (lgV s xs ac).length with h | h
  · exact decide_eq_true (allU_iff.1 (okL_iff.1 (lgV_ok s xs ac)).2 _ (getD_mem h))
  · rw [List.getD_eq_getElem?_getD, List.getElem?_eq_none h]; rfl
theorem x40_by {X : Int} (h : byB X = true) : byB (X.tmod 40) = true := by
  have := by_rg h
  refine decide_eq_true ?_
  rw [Int.tmod_eq_emod_of_nonneg this.1]; omega
theorem nxX_by {s : CD} {xs ac : List Int} {X W : Int} (h : byB X = true) : byB (nxX s xs ac X W) = true := by
  unfold nxX
  cases (decide (W.tmod 3 = 2) && (decide (opI s xs ac = 0) && decide (0 < (lgV s xs ac).length))) with
  | true => exact lg_by _
  | false => exact x40_by h
theorem cTl_of {s : CD} {xs ac : List Int} (h : gTl s xs ac = true) : cTl s xs ac = true := by
  obtain ⟨hb, hu, hl, hm⟩ := gTl_iff.1 h
  have hok : okL xs = true := okL_iff.2 ⟨by omega, hu⟩
  unfold cTl; rw [hok, decide_eq_true (by omega), show lenOk ac = true from decide_eq_true (by omega), hb]; rfl
section
variable {s : CD} {xs ac : List Int} {X B W : Int} {de re : Bool} {K : NK}
theorem nxR_is (h : gTl s xs ac = true) {y x : Int} (hy : byB y = true) (hx : byB x = true) (hre : W.tmod 3 ≠ 0 → re = !decide (rfX s xs ac y x = 0)) :
    nxR nTl s xs ac W re K y x = bif decide (W.tmod 3 = 0) && decide ((acI s xs ac y x).e = 0) then K.B y x else K.C y x (nxS s xs ac W y x) := by
  have hC : nTl.C s xs ac = true := cTl_of h
  have hY : nTl.BY y = true := hy
  have hX : nTl.BY x = true := hx
  unfold nxR nxS
  rw [hC, hY, hX]
  by_cases hw : W.tmod 3 = 0
  · rw [decide_eq_true hw]
    show (bif !decide ((acI s xs ac y x).e = 0) then K.C y x s else K.B y x) = _
    cases decide ((acI s xs ac y x).e = 0) <;> rfl
  · rw [decide_eq_false hw, hre hw]
    show (match !decide (rfX s xs ac y x = 0) with | false => bif decide (rfX s xs ac y x = 0) then K.C y x (rfC s xs ac y x) else none | true => bif !decide (rfX s xs ac y x = 0) then bif !decide (rfX s xs ac y x = 0) then K.C y x s else K.Z y x else none) = K.C y x (bif decide (rfX s xs ac y x = 0) then rfC s xs ac y x else s)
    cases decide (rfX s xs ac y x = 0) <;> rfl
theorem nxT_is (h : gTl s xs ac = true) {y x : Int} (hy : byB y = true) (hx : byB x = true) (hde : opI s xs ac = 0 → y = tuV s xs ac → de = !decide (doX s xs ac x = 0)) (hre : nxI s xs ac y x = false → W.tmod 3 ≠ 0 → re = !decide (rfX s xs ac y x = 0)) :
    nxT nTl s xs ac W de re K y x = nxF s xs ac W y x K := by
  have hC : nTl.C s xs ac = true := cTl_of h
  have hX : nTl.BY x = true := hx
  unfold nxT nxF
  have hI : nxI s xs ac y x = (decide (opI s xs ac = 0) && (decide (y = tuV s xs ac) && decide (doX s xs ac x = 0))) := rfl
  rw [show nTl.OP s xs ac = opI s xs ac from rfl, show nTl.TV s xs ac = tuV s xs ac from rfl, hC, hX]
  by_cases h1 : opI s xs ac = 0
  · by_cases h2 : y = tuV s xs ac
    · rw [hde h1 h2]
      by_cases h3 : doX s xs ac x = 0
      · rw [hI, decide_eq_true h1, decide_eq_true h2, decide_eq_true h3]
        show (bif decide (doX s xs ac x = 0) then K.A y x else none) = _
        rw [decide_eq_true h3]; rfl
      · have hI2 : nxI s xs ac y x = false := by rw [hI, decide_eq_false h3]; simp
        rw [hI2, decide_eq_true h1, decide_eq_true h2, decide_eq_false h3, nxR_is h hy hx (hre hI2)]
        show (bif !decide (doX s xs ac x = 0) then bif decide (doX s xs ac x = 0) then K.Z y x else _ else none) = _
        rw [decide_eq_false h3]; rfl
    · have hI2 : nxI s xs ac y x = false := by rw [hI, decide_eq_false h2]; simp
      rw [hI2, decide_eq_true h1, decide_eq_false h2, nxR_is h hy hx (hre hI2)]; rfl
  · have hI2 : nxI s xs ac y x = false := by rw [hI, decide_eq_false h1]; rfl
    rw [hI2, decide_eq_false h1, nxR_is h hy hx (hre hI2)]; rfl
theorem nxAll_is (h : gTl s xs ac = true) (hX : byB X = true) (hde : opI s xs ac = 0 → nxY s xs ac B W = tuV s xs ac → de = !decide (doX s xs ac (nxX s xs ac X W) = 0)) (hre : nxI s xs ac (nxY s xs ac B W) (nxX s xs ac X W) = false → W.tmod 3 ≠ 0 → re = !decide (rfX s xs ac (nxY s xs ac B W) (nxX s xs ac X W) = 0)) :
    nxAll nTl s xs ac X B W de re K = nxF s xs ac W (nxY s xs ac B W) (nxX s xs ac X W) K := by
  have hC : nTl.C s xs ac = true := cTl_of h
  have hx := nxX_by (s := s) (xs := xs) (ac := ac) (W := W) hX
  have hy := nxY_by s xs ac B W
  have hX0 := by_rg hX
  have key := fun y x (e1 : nxY s xs ac B W = y) (e2 : nxX s xs ac X W = x) => nxT_is (de := de) (re := re) (W := W) (K := K) h (y := y) (x := x) (by rw [← e1]; exact hy) (by rw [← e2]; exact hx) (by rw [← e1, ← e2]; exact hde) (by rw [← e1, ← e2]; exact hre)
  have hw : ∀ y, nxY s xs ac B W = (bif decide (W.tmod 3 = 2) then tuV s xs ac else y) → nxW nTl s xs ac X W de re K y = nxF s xs ac W (nxY s xs ac B W) (nxX s xs ac X W) K := fun y ey => by
    unfold nxW
    rw [hC, show nTl.OP s xs ac = opI s xs ac from rfl, show nTl.LV s xs ac = lgV s xs ac from rfl, show nTl.TV s xs ac = tuV s xs ac from rfl]
    have ex : nxX s xs ac X W = bif decide (W.tmod 3 = 2) && (decide (opI s xs ac = 0) && decide (0 < (lgV s xs ac).length)) then (lgV s xs ac).getD (X.tmod (lgV s xs ac).length).toNat 0 else X.tmod 40 := rfl
    by_cases h2 : W.tmod 3 = 2
    · rw [decide_eq_true h2, cond_true] at ey
      rw [decide_eq_true h2] at ex ⊢
      by_cases ho : opI s xs ac = 0
      · rw [decide_eq_true ho] at ex ⊢
        have hof : Int.ofNat (lgV s xs ac).length = ((lgV s xs ac).length : Int) := rfl
        rcases Nat.eq_zero_or_pos (lgV s xs ac).length with hl | hl
        · rw [decide_eq_false (show ¬ 0 < (lgV s xs ac).length by omega)] at ex
          rw [hof, decide_eq_false (show ¬ 0 < ((lgV s xs ac).length : Int) by omega)]
          exact (key _ _ ey ex).trans (by rw [ey, ex])
        · rw [decide_eq_true hl] at ex
          have hm0 : 0 ≤ X.tmod ((lgV s xs ac).length : Int) := by rw [Int.tmod_eq_emod_of_nonneg hX0.1]; exact Int.emod_nonneg _ (by omega)
          have hm1 : X.tmod ((lgV s xs ac).length : Int) < ((lgV s xs ac).length : Int) := by rw [Int.tmod_eq_emod_of_nonneg hX0.1]; exact Int.emod_lt_of_pos _ (by omega)
          have en : X.tmod ((lgV s xs ac).length : Int) = ((X.tmod ((lgV s xs ac).length : Int)).toNat : Int) := by omega
          rw [hof, decide_eq_true (show 0 < ((lgV s xs ac).length : Int) by omega), decide_eq_false (show ¬ ((lgV s xs ac).length : Int) = 0 by omega), wr64 (n := X) (by omega) (by omega)]
          simp only [cond_true, cond_false]
          rw [en, atU_g (by omega)]
          exact (key _ _ ey ex).trans (by rw [ey, ex])
      · rw [decide_eq_false ho] at ex ⊢
        exact (key _ _ ey ex).trans (by rw [ey, ex])
    · rw [decide_eq_false h2, cond_false] at ey
      rw [decide_eq_false h2] at ex ⊢
      exact (key _ _ ey ex).trans (by rw [ey, ex])
  have eY : nxY s xs ac B W = bif decide (W.tmod 3 = 2) then tuV s xs ac else bif decide (B.tmod 6 < 4) then (wr .u8 (tuV s xs ac + B.tmod 6)).tmod 4 else tuV s xs ac := rfl
  unfold nxAll
  rw [hC, cond_true, show nTl.TV s xs ac = tuV s xs ac from rfl]
  by_cases hb : B.tmod 6 < 4
  · rw [decide_eq_true hb] at eY ⊢
    exact hw _ eY
  · rw [decide_eq_false hb] at eY ⊢
    exact hw _ eY
end
end Go.Proofs.YtojlmpcbplepcaaGreat
