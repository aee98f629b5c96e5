/- Texts merged: Fs3, FrameS. -/
import Derived.Test.YtnbfnoomhlamnaaFi5
import Derived.Test.YtnbfnoomhlamnaaFrame
import Derived.Test.YtnbfnoomhlamnaaEng4
/- Chapter 3: the law SeedShuffles is true. -/
namespace Go.Proofs.Ytnbfnoomhlamnaa
open Go Go.Eng
def addM (S : SN) (xs : List Int) : Nat → List Int
  | 0 => xs
  | n + 1 => addM S xs n ++ [S.MK 1 (n : Int)]
theorem addM_len (S : SN) (xs : List Int) : ∀ n : Nat, (addM S xs n).length = xs.length + n
  | 0 => rfl
  | n + 1 => by rw [addM, List.length_append, addM_len S xs n]; simp; omega
theorem addM_is (S : SN) (xs : List Int) : ∀ n : Nat, addM S xs n = xs ++ (List.range n).map fun (i : Nat) => S.MK 1 (i : Int)
  | 0 => by simp [addM]
  | n + 1 => by rw [addM, addM_is S xs n, List.range_succ]; simp
theorem shuffles_eval (S : SN) (s : Int) (xs : List Int) : evalFn Try.prog (orcS S) noLoops 100 10 Try.f10 [.int .i64 s, .gs 0] [.rs false 1 (.ints .i64 xs)] (fun v _ => some v) =
    bif decide (300 < Int.ofNat xs.length) then some (.bool true) else
    bif decide (0 ≤ (0 : Int) ∧ 0 ≤ wr .i64 (Int.ofNat xs.length + 12) ∧ wr .i64 (Int.ofNat xs.length + 12) * 9 ≤ 140737488355328) then
    bif decide ((addM S xs 0).length * 9 ≤ 70368744177664) then
    bif decide ((addM S xs 1).length * 9 ≤ 70368744177664) then
    bif decide ((addM S xs 2).length * 9 ≤ 70368744177664) then
    bif decide ((addM S xs 3).length * 9 ≤ 70368744177664) then
    bif decide ((addM S xs 4).length * 9 ≤ 70368744177664) then
    bif decide ((addM S xs 5).length * 9 ≤ 70368744177664) then
    bif decide ((addM S xs 6).length * 9 ≤ 70368744177664) then
    bif decide ((addM S xs 7).length * 9 ≤ 70368744177664) then
    bif decide ((addM S xs 8).length * 9 ≤ 70368744177664) then
    bif decide ((addM S xs 9).length * 9 ≤ 70368744177664) then
    bif decide ((addM S xs 10).length * 9 ≤ 70368744177664) then
    bif decide ((addM S xs 11).length * 9 ≤ 70368744177664) then
    bif decide ((addM S xs 12).length * 9 ≤ 70368744177664) then
    bif decide (0 ≤ (0 : Int) ∧ 0 ≤ Int.ofNat xs.length ∧ Int.ofNat xs.length ≤ Int.ofNat (addM S xs 12).length) then
    bif decide (0 + ((Int.ofNat xs.length).toNat - 0) ≤ (addM S xs 12).length) then
    bif !decide (S.SS s (List.take ((Int.ofNat xs.length).toNat - 0) (addM S xs 12)) = S.SS s xs) then some (.bool false) else bif !decide (S.SE s (List.take ((Int.ofNat xs.length).toNat - 0) (addM S xs 12)) = S.SE s xs) then some (.bool false) else
    bif decide ((S.SV s (List.take ((Int.ofNat xs.length).toNat - 0) (addM S xs 12))).length ≤ 1000000) then bif !S.EQ (S.SV s (List.take ((Int.ofNat xs.length).toNat - 0) (addM S xs 12))) (S.SV s xs) then some (.bool false) else
    bif S.KP (addM S xs 12) xs && decide ((Int.ofNat xs.length).toNat - 0 = xs.length) then
    bif decide ((Int.ofNat xs.length).toNat - 0 ≤ (addM S xs 12).length) && S.FC (S.SV s (List.take ((Int.ofNat xs.length).toNat - 0) (addM S xs 12))) (List.take ((Int.ofNat xs.length).toNat - 0) (addM S xs 12)) then some (.bool true) else none else none else none else none else none else none else none else none else none else none else none else none else none else none else none else none else none else none else none := by kernel_rfl
theorem shufR_len : ∀ (n : Nat) (s : Int) (ys : List Int), (shufR n s ys).2.length = ys.length
  | 0, _, _ => rfl
  | n + 1, s, ys => by rw [shufR, shufR_len n]; simp [swapL]
theorem SV_len (s : Int) (xs : List Int) : (SV s xs).length ≤ xs.length := by
  unfold SV
  cases SB s xs with
  | true => rw [cond_true, shufR_len]; exact Nat.le_refl _
  | false => simp
theorem shuffles_true (s : Int) (xs : List Int) : evalFn Try.prog (orcS sN) noLoops 100 10 Try.f10 [.int .i64 s, .gs 0] [.rs false 1 (.ints .i64 xs)] (fun v _ => some v) = some (.bool true) := by
  rw [shuffles_eval]
  rcases Nat.lt_or_ge 300 xs.length with h | h
  · rw [decide_eq_true (show (300 : Int) < Int.ofNat xs.length by show (300 : Int) < (xs.length : Int); omega)]; rfl
  · have hw : wr .i64 (Int.ofNat xs.length + 12) = (xs.length : Int) + 12 := wrK (by show _ ≤ (xs.length : Int) + 12; omega) (by show (xs.length : Int) + 12 < _; omega)
    have ht : List.take ((Int.ofNat xs.length).toNat - 0) (addM sN xs 12) = xs := by
      rw [addM_is, show (Int.ofNat xs.length).toNat - 0 = xs.length from rfl, List.take_append_of_le_length (Nat.le_refl _), List.take_length]
    have hsv := SV_len s xs
    have hl : ∀ k : Nat, k ≤ 12 → decide ((addM sN xs k).length * 9 ≤ 70368744177664) = true := fun k hk => decide_eq_true (by rw [addM_len]; omega)
    rw [ht, hw, decide_eq_false (show ¬ (300 : Int) < Int.ofNat xs.length by show ¬ (300 : Int) < (xs.length : Int); omega), decide_eq_true (show 0 ≤ (0 : Int) ∧ 0 ≤ (xs.length : Int) + 12 ∧ ((xs.length : Int) + 12) * 9 ≤ 140737488355328 by omega),
      hl 0 (by omega), hl 1 (by omega), hl 2 (by omega), hl 3 (by omega), hl 4 (by omega), hl 5 (by omega), hl 6 (by omega), hl 7 (by omega), hl 8 (by omega), hl 9 (by omega), hl 10 (by omega), hl 11 (by omega), hl 12 (by omega),
      decide_eq_true (show 0 ≤ (0 : Int) ∧ 0 ≤ Int.ofNat xs.length ∧ Int.ofNat xs.length ≤ Int.ofNat (addM sN xs 12).length by rw [addM_len]; refine ⟨by omega, ?_, ?_⟩; show 0 ≤ (xs.length : Int); omega; show (xs.length : Int) ≤ ((xs.length + 12 : Nat) : Int); omega),
      decide_eq_true (show 0 + ((Int.ofNat xs.length).toNat - 0) ≤ (addM sN xs 12).length by rw [addM_len]; show 0 + (xs.length - 0) ≤ _; omega)]
    have e1 : sN.EQ (sN.SV s xs) (sN.SV s xs) = true := eqI_iff.2 rfl
    have e2 : sN.KP (addM sN xs 12) xs = true := by
      show kpC (addM sN xs 12) xs = true
      unfold kpC
      rw [decide_eq_true (show addM sN xs 12 = xs ++ marks mkV from addM_is sN xs 12), decide_eq_true (show xs.length ≤ 1000000 by omega)]; rfl
    have e3 : sN.FC (sN.SV s xs) xs = true := by
      show fiC (SV s xs) xs = true
      unfold fiC
      rw [decide_eq_true (show (SV s xs).length ≤ 900000 by omega), decide_eq_true (show xs.length ≤ 900000 by omega)]; rfl
    rw [e1, e2, e3, decide_eq_true (rfl : sN.SS s xs = sN.SS s xs), decide_eq_true (rfl : sN.SE s xs = sN.SE s xs), decide_eq_true (show (sN.SV s xs).length ≤ 1000000 by show (SV s xs).length ≤ _; omega),
      decide_eq_true (show (Int.ofNat xs.length).toNat - 0 = xs.length from rfl), decide_eq_true (show (Int.ofNat xs.length).toNat - 0 ≤ (addM sN xs 12).length by rw [addM_len]; show xs.length - 0 ≤ _; omega)]
    rfl
theorem shuffles_fn (nn : Bool) (s : Int) (xs : List Int) : FnOK Try.prog 10 [.int .i64 s, .gs 0] [.rs nn 1 (.ints .i64 xs)] (.bool true) ([.rs nn 1 (.ints .i64 xs)] ++ []) := by
  obtain ⟨v1, h1, hk, hok⟩ := evalFn_ok orcS_ok mixed Try.func10 noLoops_ok (shuffles_true s xs)
  cases hk
  exact FnOK.hard rfl (by
    rw [List.append_nil]
    exact hok.plain rfl fun b blk hb => by
      cases b with
      | zero => simp only [List.getElem?_cons_zero, Option.some.injEq] at hb; subst hb; rfl
      | succ b => simp at hb)
def gS10 : List V → List Blk → Option (Bool × V × List Blk)
  | [.int .i64 _, .gs 0], [.rs _ 1 (.ints .i64 _)] => some (true, .bool true, [])
  | _, _ => none
theorem gS10_ok : HTabOk Try.prog (addH 10 gS10 emptyH) := by
  refine addH_ok ?_ emptyH_ok
  intro args h c v nb hq hc
  unfold gS10 at hq
  split at hq
  · cases hq; exact ⟨.of Try.func10 (by kernel_rfl), shuffles_fn _ _ _⟩
  · cases hq
def domL : FuncId → Bool := fun f => Nat.beq f 10
noncomputable abbrev orcL : Oracle := inl Try.prog ftab tab1 plainL 100 never domL (hOrcN glS nrS (addH 10 gS10 emptyH)) 20
theorem orcL_ok : OracleOk Try.prog orcL := inl_ok (hOrcN_ok gS10_ok) ftab_ok tab1_ok plainL_ok mixed 20
theorem seedShuffles_true (s : Int) (xs : List Int) : evalFn Try.prog orcL noLoops 100 3 Try.f3 [.int .i64 s, .gs 0] [.rs false 1 (.ints .i64 xs)] (fun v _ => some v) = some (.bool true) := by kernel_rfl
end Go.Proofs.Ytnbfnoomhlamnaa

/- What a row asks behind a call that is handed a slice of whole numbers: the engine's FrameS. -/
