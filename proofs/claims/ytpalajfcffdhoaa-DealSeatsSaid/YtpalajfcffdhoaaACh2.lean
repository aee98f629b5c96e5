/- Chapter 2: Pascal's rows: the outer loop. -/
import Derived.Test.YtpalajfcffdhoaaAAw0
namespace Go.Proofs.Ytpalajfcffdhoaa.N2
open Go Go.Eng
noncomputable def chTree2 : List PV → Fin
  | [.i j, .i i, .i n, .i k, .i f0, .i f1, .i f2, .i f3, .i k2, .l xs] => .br (pB (0 ≤ i ∧ i ≤ 128 ∧ 0 ≤ k2 ∧ k2 ≤ 64 ∧ j = ((min k2.toNat (i.toNat + 1) : Nat) : Int) ∧ xs = flat (rowL i.toNat k2.toNat)))
      (.leaf (.exit 2) (chX2.at [.i i, .i n, .i k, .i f0, .i f1, .i f2, .i f3, .i k2, .l (flat (rowL (i.toNat + 1) k2.toNat))])) .no
  | _ => .no
noncomputable def chSum2 : LoopSum := lsumF 7 chT2 chLp2 chTree2
theorem chSum2_ok : LoopOk Try.prog chSum2 := by
  refine lsumF_ok (by kernel_rfl) (fun rd ps e1 st1 h => ?_)
  unfold chTree2 at h
  split at h
  · rename_i j i n k f0 f1 f2 f3 k2 xs
    simp only [Fin.pick] at h
    cases hc : pB (0 ≤ i ∧ i ≤ 128 ∧ 0 ≤ k2 ∧ k2 ≤ 64 ∧ j = ((min k2.toNat (i.toNat + 1) : Nat) : Int) ∧ xs = flat (rowL i.toNat k2.toNat)) with
    | false => rw [hc] at h; cases h
    | true =>
      rw [hc, cond_true] at h
      rw [pB_iff] at hc
      obtain ⟨h1, h2, h3, h4, rfl, rfl⟩ := hc
      cases h
      obtain ⟨x, rfl⟩ : ∃ x : Nat, i = x := ⟨i.toNat, by omega⟩
      obtain ⟨y, rfl⟩ : ∃ y : Nat, k2 = y := ⟨k2.toNat, by omega⟩
      rw [show ((x : Int)).toNat = x by omega, show ((y : Int)).toNat = y by omega]
      have := ch_loop2 rd n k f0 f1 f2 f3 x y (min y (x + 1)) (Nat.min_le_left _ _) (by omega) (min y (x + 1)) (Nat.le_refl _)
      rw [mid_start, mid_end] at this
      exact this
  · cases h
noncomputable def chL2 : FuncId → Loops := fun f => match f with
  | 96 => sums (fun n => match n with | 6 => some chSum2 | _ => none)
  | _ => noLoops
theorem chL2_ok : ∀ f, loopsOk Try.prog (chL2 f) := fun f => by
  unfold chL2
  split
  · intro n g hg
    simp only [sums] at hg
    split at hg
    · cases hg; exact chSum2_ok
    · cases hg
  · exact noLoops_ok
noncomputable def chT1 : Tm := ⟨mkS [(0, .yield 6), (1, .ptr 4 0), (3, .ptr 7 0), (8, .int .i64)] 0 38, chBl .ready, []⟩
noncomputable def chX1 : Tm := ⟨[], chBl (.done (.exit 0)), []⟩
noncomputable def chX0 : Tm := ⟨mkS [] 0 38, chBl (.done (.exit 0)), []⟩
def gets (xs : List Int) : Nat → Nat → List Int
  | _, 0 => []
  | i, n + 1 => xs.getD i 0 :: gets xs (i + 1) n
theorem gets_eq {xs : List Int} : ∀ {n i : Nat}, i + n ≤ xs.length → gets xs i n = (xs.drop i).take n
  | 0, i, _ => by simp [gets]
  | n + 1, i, h => by
    rw [gets, gets_eq (by omega), List.drop_eq_getElem_cons (show i < xs.length by omega), List.take_succ_cons, List.getD_eq_getElem?_getD, List.getElem?_eq_getElem (by omega)]
    rfl
def zeros : List Int := List.replicate 260 0
def cpy (xs : List Int) : List Int := List.take 0 zeros ++ gets xs 0 260 ++ List.drop (0 + 260) zeros
theorem cpy_eq {xs : List Int} (h : xs.length = 260) : cpy xs = xs := by
  unfold cpy
  rw [gets_eq (by omega), List.take_zero, List.nil_append, List.drop_zero, List.take_of_length_le (by omega), List.drop_eq_nil_of_le (show zeros.length ≤ 0 + 260 from Nat.le_of_eq (List.length_replicate ..)), List.append_nil]
noncomputable def chSt (e : XE) (l : List PV) : RT := some (e, l, [(chA, chA), (chB, chB)])
theorem ch_round1 (rd : Option Nat) (i n k f0 f1 f2 f3 k2 : Int) (xs : List Int) : roundT Try.prog (orcP tabA plainL) (chL2 96) 200 7 rd 96 chLp1 chT1 chX0 [.i i, .i n, .i k, .i f0, .i f1, .i f2, .i f3, .i k2, .l xs] =
    bif decide (i < 129) then bif decide (0 + 260 ≤ xs.length) then bif decide (i = n) then bif decide (0 ≤ k ∧ k < 65) then bif decide (k.toNat * 4 + 4 ≤ 260) then
      chSt .ret [.i n, .i k, .i ((cpy xs).getD (k.toNat * 4) 0), .i ((cpy xs).getD (k.toNat * 4 + 1) 0), .i ((cpy xs).getD (k.toNat * 4 + 1 + 1) 0), .i ((cpy xs).getD (k.toNat * 4 + 1 + 1 + 1) 0), .i k2, .l xs]
    else none else none else
    cond (codesB [(chLp2, chLp2), (chA, chA), (chB, chB)]) (bif pB (0 ≤ i ∧ i ≤ 128 ∧ 0 ≤ k2 ∧ k2 ≤ 64 ∧ foldI minI k2 [wr .i64 (i + 1)] = ((min k2.toNat (i.toNat + 1) : Nat) : Int) ∧ xs = flat (rowL i.toNat k2.toNat)) then
      chSt .normal [.i (wr .i64 (i + 1)), .i n, .i k, .i f0, .i f1, .i f2, .i f3, .i k2, .l (flat (rowL (i.toNat + 1) k2.toNat))] else none) none
    else none else none := by kernel_rfl
end Go.Proofs.Ytpalajfcffdhoaa.N2
