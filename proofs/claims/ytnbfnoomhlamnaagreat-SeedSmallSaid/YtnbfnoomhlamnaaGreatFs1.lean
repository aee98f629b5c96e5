/- Chapter 3: Shuffle of the reference; both Shuffles as contracts. -/
import Derived.Test.YtnbfnoomhlamnaaGreatFk
import Derived.Test.YtnbfnoomhlamnaaGreatShuf2
import Derived.Test.YtnbfnoomhlamnaaGreatRf3
namespace Go.Proofs.YtnbfnoomhlamnaaGreat
open Go Go.Eng
def gRb (BS BV : Int → Int → Int) (BE : Int → Int → Int) : List V → Option (Bool × V)
  | [.int .i64 s, .int .i64 n] => some (true, .tuple [.int .i64 (BS s n), .int .i64 (BV s n), .int .i64 (BE s n)])
  | _ => none
def gRr (RB : Int → Bool) : List V → Option (Bool × V)
  | [.int .i64 s] => some (true, .bool (RB s))
  | _ => none
def tabRs (RB : Int → Bool) (BS BV BE : Int → Int → Int) : PTab := addTab 26 (gRr RB) (addTab 22 (gRb BS BV BE) emptyTab)
theorem tabRs_ok : PTabOk Tryz.prog (tabRs rightB belowS belowV (fun s n => errI (!belowB s n))) := by
  refine addTab_ok (fun args c v h _ => ?_) (addTab_ok (fun args c v h _ => ?_) emptyTab_ok)
  · unfold gRr at h
    split at h
    · cases h; exact rright_pure _
    · cases h
  · unfold gRb at h
    split at h
    · cases h; exact rbelow_pure _ _
    · cases h
noncomputable def rsLp : Code := loopOf 7 Tryz.f29
def rsT : Tm := ⟨mkS [(0, .int .i64), (7, .gs 1), (8, .int .i64)] 0 55, [.rs false 1 i64s, .grow true 3 1 i64s], []⟩
def rsX : Tm := ⟨mkS [(0, .int .i64), (7, .gs 1)] 0 55, [.rs false 1 i64s, .grow true 3 1 i64s], []⟩
noncomputable def rsG (BS BV : Int → Int → Int) (s i : Int) (xs ys : List Int) : RTK := bif decide (1 ≤ i) then
  atU ys i (fun x => atU ys (BV s (wr .i64 (i + 1))) (fun y => bif decide (0 ≤ i ∧ i < Int.ofNat ys.length) then bif decide (i.toNat < ys.length) then
    bif decide (0 ≤ BV s (wr .i64 (i + 1)) ∧ BV s (wr .i64 (i + 1)) < Int.ofNat (ys.set i.toNat y).length) then bif decide ((BV s (wr .i64 (i + 1))).toNat < (ys.set i.toNat y).length) then
      some (.normal, [.i (BS s (wr .i64 (i + 1))), .i (wr .i64 (i - 1)), .l xs, .l ((ys.set i.toNat y).set (BV s (wr .i64 (i + 1))).toNat x)], []) else none else none else none else none))
  else some (.exit 0, [.i s, .l xs, .l ys], [])
theorem rs_round (RB : Int → Bool) (BS BV BE : Int → Int → Int) (rd : Option Nat) (s i : Int) (xs ys : List Int) : roundT Tryz.prog (orc (tabRs RB BS BV BE) plainL) noLoops 100 1 rd 29 rsLp rsT rsX [.i s, .i i, .l xs, .l ys] = rsG BS BV s i xs ys := by kernel_rfl
theorem rs_loop (rd : Option Nat) (xs : List Int) : ∀ x : Int × Int × List Int, (rightB x.2.1 = true ∧ -1 ≤ x.1 ∧ x.1 < (x.2.2.length : Int) ∧ x.2.2.length ≤ 10000) →
    SimC Tryz.prog 1 rd (.loop rsLp) (rsT.at [.i x.2.1, .i x.1, .l xs, .l x.2.2]) (.exit 0) (rsX.at [.i (shufR x.1.toNat x.2.1 x.2.2).1, .l xs, .l (shufR x.1.toNat x.2.1 x.2.2).2]) := by
  refine loop_of_rounds (C := orc (tabRs rightB belowS belowV (fun s n => errI (!belowB s n))) plainL) (L := noLoops) (N := 100) (me := 29) (T := rsT) (T' := rsX) (inl_ok (oracleOf_ok emptyTab_ok) ftab_ok tabRs_ok plainL_ok mixed 20) mixed (noLoops_ok) (by kernel_rfl) (by kernel_rfl) (X := Int × Int × List Int)
    (fun x => [.i x.2.1, .i x.1, .l xs, .l x.2.2]) (fun x => rightB x.2.1 = true ∧ -1 ≤ x.1 ∧ x.1 < (x.2.2.length : Int) ∧ x.2.2.length ≤ 10000) (fun x => x.1.toNat) (fun x => (.exit 0, [.i (shufR x.1.toNat x.2.1 x.2.2).1, .l xs, .l (shufR x.1.toNat x.2.1 x.2.2).2])) ?_
  rintro ⟨i, s, ys⟩ ⟨hs, hi0, hi, hl⟩
  dsimp only at hs hi0 hi hl ⊢
  have h := rs_round rightB belowS belowV (fun s n => errI (!belowB s n)) rd s i xs ys
  unfold rsG at h
  cases hp : decide (1 ≤ i) with
  | false =>
    rw [hp, cond_false] at h
    simp only [decide_eq_false_iff_not] at hp
    refine ⟨_, _, _, h, codesK, .inr ⟨by simp, ?_⟩⟩
    rw [show i.toNat = 0 by omega]
    rfl
  | true =>
    rw [hp, cond_true] at h
    simp only [decide_eq_true_eq] at hp
    obtain ⟨n, hn⟩ : ∃ n : Nat, i = (n + 1 : Nat) := ⟨i.toNat - 1, by omega⟩
    subst hn
    have e1 : wr .i64 (((n + 1 : Nat) : Int) + 1) = ((n + 2 : Nat) : Int) := by rw [wrK (by omega) (by omega)]; omega
    have e2 : wr .i64 (((n + 1 : Nat) : Int) - 1) = (n : Int) := by rw [wrK (by omega) (by omega)]; omega
    obtain ⟨b1, b2, b3⟩ := below_right (n := ((n + 2 : Nat) : Int)) hs (by omega) (by omega)
    rw [e1, e2] at h
    generalize hjv : belowV s ((n + 2 : Nat) : Int) = j at *
    obtain ⟨k, hk⟩ : ∃ k : Nat, j = k := ⟨j.toNat, by omega⟩
    subst hk
    have hk1 : k < ys.length := by omega
    have hn1 : n + 1 < ys.length := by omega
    have d2 : decide (0 ≤ ((n + 1 : Nat) : Int) ∧ ((n + 1 : Nat) : Int) < Int.ofNat ys.length) = true := decide_eq_true ⟨by omega, by show ((n + 1 : Nat) : Int) < (ys.length : Int); omega⟩
    have t1 : ((k : Int)).toNat = k := by omega
    have t2 : (((n + 1 : Nat) : Int)).toNat = n + 1 := by omega
    rw [atU_at hn1, atU_at hk1, d2, cond_true, t1, t2, decide_eq_true hn1, cond_true] at h
    have d4 : decide (0 ≤ (k : Int) ∧ (k : Int) < Int.ofNat (ys.set (n + 1) ys[k]).length) = true := decide_eq_true ⟨by omega, by rw [List.length_set]; show (k : Int) < (ys.length : Int); omega⟩
    have d5 : decide (k < (ys.set (n + 1) ys[k]).length) = true := decide_eq_true (by rw [List.length_set]; exact hk1)
    rw [d4, d5, cond_true, cond_true] at h
    refine ⟨_, _, _, h, codesK, .inl ⟨rfl, ((n : Int), belowS s ((n + 2 : Nat) : Int), (ys.set (n + 1) ys[k]).set k ys[n + 1]), rfl, ⟨b1, by dsimp only; omega, by dsimp only; rw [List.length_set, List.length_set]; omega, by dsimp only; rw [List.length_set, List.length_set]; exact hl⟩, by dsimp only; omega, ?_⟩⟩
    dsimp only
    rw [show ((n : Int)).toNat = n by omega, t2]
    simp only [shufR, hjv, t1, swapL]
    rw [List.getD_eq_getElem?_getD, List.getD_eq_getElem?_getD, List.getElem?_eq_getElem hk1, List.getElem?_eq_getElem hn1]
    rfl
noncomputable def rsTree : List PV → Fin
  | [.i s, .i i, .l xs, .l ys] => .br (rightB s && decide (-1 ≤ i ∧ i < (ys.length : Int) ∧ ys.length ≤ 10000)) (.leaf (.exit 0) (rsX.at [.i (shufR i.toNat s ys).1, .l xs, .l (shufR i.toNat s ys).2])) .no
  | _ => .no
noncomputable def rsL : Loops := sums (fun n => match n with | 7 => some (lsumF 1 rsT rsLp rsTree) | _ => none)
theorem rsL_ok : loopsOk Tryz.prog rsL := by
  intro n g hg
  simp only [rsL, sums] at hg
  split at hg
  · cases hg
    refine lsumF_ok (by kernel_rfl) (fun rd ps e1 st1 hq => ?_)
    unfold rsTree at hq
    split at hq
    · rename_i s i xs ys
      simp only [Fin.pick] at hq
      cases hc : (rightB s && decide (-1 ≤ i ∧ i < (ys.length : Int) ∧ ys.length ≤ 10000)) with
      | false => rw [hc] at hq; cases hq
      | true =>
        rw [hc, cond_true] at hq
        simp only [Bool.and_eq_true, decide_eq_true_eq] at hc
        cases hq
        exact rs_loop rd xs (i, s, ys) hc
    · cases hq
  · cases hg
/-- What both answer. -/
def SB (s : Int) (xs : List Int) : Bool := rightB s && decide (xs.length ≤ 10000)
def SS (s : Int) (xs : List Int) : Int := bif SB s xs then (shufR (xs.length - 1) s xs).1 else 0
def SV (s : Int) (xs : List Int) : List Int := bif SB s xs then (shufR (xs.length - 1) s xs).2 else []
def SE (s : Int) (xs : List Int) : Int := bif !rightB s then 2 else bif decide (10000 < Int.ofNat xs.length) then 5 else 0
def ansS (nn : Bool) : Tm := ⟨[some (.tuple [.int .i64, .gs 1, .int .i64])], [.rs nn 1 i64s, .grow false 3 1 i64s], []⟩
theorem shuf18_eval (s : Int) (xs : List Int) : evalFn Tryz.prog (orc tab4 shufL) (shufL 11) 100 11 Tryz.f11 [.int .i64 s, .gs 0] [.rs true 1 (.ints .i64 xs)] (ansT (ansS true) 1) =
    bif !rightB s then some ([.i 0, .i 2, .l xs, .l []], []) else
    bif decide (10000 < Int.ofNat xs.length) then some ([.i 0, .i 5, .l xs, .l []], []) else
    bif decide (xs.length * 9 ≤ 70368744177664) then
      cond (codesB [(shufLp, shufLp)]) (cond (rightB s && decide (-1 ≤ lastI xs ∧ lastI xs < (xs.length : Int) ∧ xs.length ≤ 10000))
        (some ([.i (shufR (lastI xs).toNat s xs).1, .i 0, .l xs, .l (shufR (lastI xs).toNat s xs).2], [])) none) none
    else none := by kernel_rfl
theorem shuf27_eval (s : Int) (xs : List Int) : evalFn Tryz.prog (orc (tabRs rightB belowS belowV (fun s n => errI (!belowB s n))) plainL) rsL 100 29 Tryz.f29 [.int .i64 s, .gs 0] [.rs false 1 (.ints .i64 xs)] (ansT (ansS false) 1) =
    bif !rightB s then some ([.i 0, .i 2, .l xs, .l []], []) else
    bif decide (10000 < Int.ofNat xs.length) then some ([.i 0, .i 5, .l xs, .l []], []) else
    bif decide (xs.length * 9 ≤ 70368744177664) then
      cond (codesB [(rsLp, rsLp)]) (cond (rightB s && decide (-1 ≤ lastI xs ∧ lastI xs < (xs.length : Int) ∧ xs.length ≤ 10000))
        (some ([.i (shufR (lastI xs).toNat s xs).1, .i 0, .l xs, .l (shufR (lastI xs).toNat s xs).2], [])) none) none
    else none := by kernel_rfl
theorem both_is (s : Int) (xs : List Int) (c : Bool) (hc : c = true) : (bif !rightB s then some ([PV.i 0, .i 2, .l xs, .l []], ([] : List (Code × Code))) else
    bif decide (10000 < Int.ofNat xs.length) then some ([.i 0, .i 5, .l xs, .l []], []) else
    bif decide (xs.length * 9 ≤ 70368744177664) then
      cond c (cond (rightB s && decide (-1 ≤ lastI xs ∧ lastI xs < (xs.length : Int) ∧ xs.length ≤ 10000))
        (some ([.i (shufR (lastI xs).toNat s xs).1, .i 0, .l xs, .l (shufR (lastI xs).toNat s xs).2], [])) none) none
    else none) = some ([.i (SS s xs), .i (SE s xs), .l xs, .l (SV s xs)], []) := by
  unfold SS SV SE SB
  cases hr : rightB s with
  | false => rfl
  | true =>
    rcases Nat.lt_or_ge 10000 xs.length with h1 | h1
    · rw [decide_eq_true (show (10000 : Int) < Int.ofNat xs.length by show (10000 : Int) < (xs.length : Int); omega), decide_eq_false (show ¬ xs.length ≤ 10000 by omega)]; rfl
    · have e : lastI xs = (xs.length : Int) - 1 := wrK (by omega) (by omega)
      rw [decide_eq_false (show ¬ (10000 : Int) < Int.ofNat xs.length by show ¬ (10000 : Int) < (xs.length : Int); omega), decide_eq_true (show xs.length * 9 ≤ 70368744177664 by omega), hc, decide_eq_true (show -1 ≤ lastI xs ∧ lastI xs < (xs.length : Int) ∧ xs.length ≤ 10000 by omega), decide_eq_true h1,
        show (lastI xs).toNat = xs.length - 1 by omega]
      rfl
theorem shuf18_fn (s : Int) (xs : List Int) : FnOK Tryz.prog 11 [.int .i64 s, .gs 0] [.rs true 1 (.ints .i64 xs)] (.tuple [.int .i64 (SS s xs), .gs 1, .int .i64 (SE s xs)]) ([.rs true 1 (.ints .i64 xs)] ++ [.grow false 3 1 (.ints .i64 (SV s xs))]) :=
  fn_ans (inl_ok (oracleOf_ok emptyTab_ok) ftab_ok tab4_ok shufL_ok mixed 20) mixed Tryz.func11 (shufL_ok 11) (by kernel_rfl) ((shuf18_eval s xs).trans (both_is s xs _ lpK)) codesK rfl
theorem shuf27_fn (nn : Bool) (s : Int) (xs : List Int) : FnOK Tryz.prog 29 [.int .i64 s, .gs 0] [.rs nn 1 (.ints .i64 xs)] (.tuple [.int .i64 (SS s xs), .gs 1, .int .i64 (SE s xs)]) ([.rs nn 1 (.ints .i64 xs)] ++ [.grow false 3 1 (.ints .i64 (SV s xs))]) :=
  FnOK.hard rfl (fn_ans (inl_ok (oracleOf_ok emptyTab_ok) ftab_ok tabRs_ok plainL_ok mixed 20) mixed Tryz.func29 rsL_ok (by kernel_rfl) ((shuf27_eval s xs).trans (both_is s xs _ lpK)) codesK rfl)
end Go.Proofs.YtnbfnoomhlamnaaGreat
