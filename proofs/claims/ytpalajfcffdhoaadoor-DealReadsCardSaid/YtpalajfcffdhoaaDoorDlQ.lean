/- Chapter 6: the deal that numbers make: the contracts of Dealt and Made. -/
import Derived.Test.YtpalajfcffdhoaaDoorDlP
namespace Go.Proofs.YtpalajfcffdhoaaDoor
open Go Go.Eng Go.Deal
noncomputable def dc6 (l ln : Nat) (n i : Int) (ls xs : List Int) : Bool := pB (l = 0 ∧ ln = min ls.length 52 ∧ n = (ln : Int) ∧ i = 0 ∧ xs = or0 ∧ okV ls)
noncomputable def dc36 (ps : List PV) : Bool := pB (∃ f ls xs, ps = lstP f [.i 0, .l ls, .l xs, .i 0, .i 0, .i 0, .i 0] ∧ ∀ j, j < 52 → 0 ≤ f j ∧ f j < 52)
def dq (ps : List PV) : H4 := d3F (lpF ps) 52 0 ⟨0, 0, 0, 0⟩
noncomputable abbrev dlLL (nn : Bool) : Loops := dlL dc6 dlX dc36 (fun ps => ((dq ps).a : Int)) (fun ps => ((dq ps).b : Int)) (fun ps => ((dq ps).c : Int)) (fun ps => ((dq ps).d : Int)) nn
theorem d3F_congr {f g : Nat → Int} : ∀ (n i : Nat) (q : H4), i + n ≤ 52 → (∀ j, j < 52 → f j = g j) → d3F f n i q = d3F g n i q
  | 0, _, _, _, _ => rfl
  | n + 1, i, q, h, hfg => by
    simp only [d3F]
    rw [d3F_congr n (i + 1) _ (by omega) hfg]
    unfold d3U
    rw [hfg i (by omega)]
theorem lpF_lst (f : Nat → Int) (r : List PV) : ∀ j, j < 52 → lpF (lstP f r) j = f j := by
  intro j hj
  have h : ∀ m : Fin 52, lpF (lstP f r) m.val = f m.val := by
    intro m
    have e : lstP f r = ((List.range 52).map fun i => PV.i (f i)) ++ r := rfl
    unfold lpF
    rw [e, List.drop_append_of_le_length (by simp)]
    have h2 : (((List.range 52).map fun i => PV.i (f i)).drop m.val) = PV.i (f m.val) :: (((List.range 52).map fun i => PV.i (f i)).drop (m.val + 1)) := by
      rw [List.drop_eq_getElem_cons (by simp)]
      simp
    rw [h2]
    rfl
  exact h ⟨j, hj⟩
theorem dlLL_ok (nn : Bool) : loopsOk Tryd.prog (dlLL nn) := by
  intro n g hg
  simp only [dlLL, dlL, sums] at hg
  split at hg
  · cases hg
    refine lsumF_ok (by cases nn <;> kernel_rfl) (fun rd ps e1 s1 h => ?_)
    unfold dlTr at h
    split at h
    · rename_i l ln n i ls xs
      simp only [Fin.pick] at h
      cases hc : dc6 l ln n i ls xs with
      | false => rw [hc] at h; cases h
      | true =>
        rw [hc, cond_true] at h
        unfold dc6 at hc
        rw [pB_iff] at hc
        obtain ⟨rfl, hl, rfl, rfl, rfl, hv⟩ := hc
        cases h
        exact dl_loop2 nn rd ls hv ln hl (0, or0) ⟨Nat.zero_le _, by decide⟩
    · cases h
  · cases hg
    refine lsumF_ok (by cases nn <;> kernel_rfl) (fun rd ps e1 s1 h => ?_)
    unfold d3Tr at h
    simp only [Fin.pick] at h
    cases hc : dc36 ps with
    | false => rw [hc] at h; cases h
    | true =>
      rw [hc, cond_true] at h
      unfold dc36 at hc
      rw [pB_iff] at hc
      obtain ⟨f, ls, xs, rfl, hf⟩ := hc
      have hd : dq (lstP f [.i 0, .l ls, .l xs, .i 0, .i 0, .i 0, .i 0]) = d3F f 52 0 ⟨0, 0, 0, 0⟩ := d3F_congr 52 0 _ (Nat.le_refl _) (lpF_lst f _)
      rw [hd] at h
      cases h
      exact d3_loop nn rd f hf ls xs (0, ⟨0, 0, 0, 0⟩) ⟨Nat.zero_le _, by decide, by decide, by decide, by decide⟩
  · cases hg
theorem minL_eq (ls : List Int) : minL ls = ((min ls.length 52 : Nat) : Int) := by
  unfold minL
  simp only [foldI, minI]
  by_cases h : (52 : Int) < Int.ofNat ls.length
  · rw [decide_eq_true h, cond_true]
    have : (52 : Int) < (ls.length : Int) := h
    omega
  · rw [decide_eq_false h, cond_false]
    have : ¬ (52 : Int) < (ls.length : Int) := h
    show (ls.length : Int) = _
    omega
theorem lst_of {X : List Int} (h : X.length = 52) : X = lstF (fun j => X.getD j 0) := by
  have e : lstF (fun j => X.getD j 0) = (List.range 52).map (fun j => X.getD j 0) := rfl
  rw [e]
  refine List.ext_getElem (by simp [h]) fun i h1 h2 => ?_
  simp [show i < X.length from h1]
theorem d3_hnd (l : List Int) : d3F (fun j => (dlX l).getD j 0) 52 0 ⟨0, 0, 0, 0⟩ = ⟨hnd l 0, hnd l 1, hnd l 2, hnd l 3⟩ := by
  unfold hnd
  have e := lst_of (dlX_len l)
  generalize (fun j => (dlX l).getD j 0) = f at e ⊢
  rw [e]
  rfl
def m0 (l : List Int) : Int := (hnd l 0 : Nat)
def m1 (l : List Int) : Int := (hnd l 1 : Nat)
def m2 (l : List Int) : Int := (hnd l 2 : Nat)
def m3 (l : List Int) : Int := (hnd l 3 : Nat)
theorem codesD {a : Code} : codesB [(a, a)] = true := by rw [codesB_iff]; intro x hx; simp at hx; rw [hx]
theorem dl_val (nn : Bool) {ls : List Int} (hv : okV ls) : evalFn Tryd.prog orcZ (dlLL nn) 100 27 Tryd.f27 [.gs 0] [.rs nn 1 (.ints .u8 ls)] (fun v _ => some v) = some (q4 (m0 ls) (m1 ls) (m2 ls) (m3 ls)) := by
  refine (dl_eval _ _ _ _ _ _ _ nn ls).trans ?_
  have hl := dlX_len ls
  have c1 : dc6 0 (minL ls).toNat (Int.ofNat (minL ls).toNat) 0 ls or0 = true := by
    unfold dc6
    rw [pB_iff, minL_eq, Int.toNat_natCast]
    exact ⟨rfl, rfl, rfl, rfl, rfl, hv⟩
  have c2 : dc36 (lstP (fun j => (dlX ls).getD j 0) [.i 0, .l ls, .l (dlX ls), .i 0, .i 0, .i 0, .i 0]) = true := by
    unfold dc36
    rw [pB_iff]
    refine ⟨_, _, _, rfl, fun j hj => ?_⟩
    have : (dlX ls).getD j 0 = (dlX ls)[j] := by simp [show j < (dlX ls).length by omega]
    rw [this]
    exact dlX_mem ls (List.getElem_mem _)
  have hd : dq (lstP (fun j => (dlX ls).getD j 0) [.i 0, .l ls, .l (dlX ls), .i 0, .i 0, .i 0, .i 0]) = ⟨hnd ls 0, hnd ls 1, hnd ls 2, hnd ls 3⟩ :=
    (d3F_congr 52 0 _ (Nat.le_refl _) (lpF_lst _ _)).trans (d3_hnd ls)
  rw [decide_eq_true (show (0 : Int) ≤ 0 ∧ 0 ≤ minL ls ∧ minL ls ≤ Int.ofNat ls.length by rw [minL_eq]; exact ⟨by omega, by omega, by show _ ≤ (ls.length : Int); omega⟩), cond_true, codesD, cond_true, c1, cond_true, decide_eq_true (show 0 + 52 ≤ (dlX ls).length by omega), cond_true, codesD, cond_true, c2, cond_true, hd]
  rfl
theorem rs8_ro {nn : Bool} {l : List Int} : ∀ (b : Nat) blk, ([.rs nn 1 (.ints .u8 l)] : List Blk)[b]? = some blk → blk.mine = false := by
  intro b blk hb
  cases b with
  | zero => simp at hb; subst hb; rfl
  | succ b => simp at hb
theorem dl_fn (nn : Bool) {ls : List Int} (hv : okV ls) : FnOK Tryd.prog 27 [.gs 0] [.rs nn 1 (.ints .u8 ls)] (q4 (m0 ls) (m1 ls) (m2 ls) (m3 ls)) [.rs nn 1 (.ints .u8 ls)] := by
  obtain ⟨v1, h3, hk, hok⟩ := evalFn_ok orcZ_ok mixed Tryd.func27 (dlLL_ok nn) (dl_val nn hv)
  cases hk
  exact hok.plain rfl rs8_ro
end Go.Proofs.YtpalajfcffdhoaaDoor
