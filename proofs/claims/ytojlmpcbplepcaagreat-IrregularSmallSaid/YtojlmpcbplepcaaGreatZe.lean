/- Texts merged: Ze, Ze0, Ze1, Ze2, Ze3, Ze4. -/
import Derived.Test.YtojlmpcbplepcaaGreatZa
/- Chapter 10: the law IrregularSmall: what spoilt makes of a course. -/
namespace Go.Proofs.YtojlmpcbplepcaaGreat
open Go Go.Eng
def spS (s : CD) : Nat → CD
  | 0 => { s with d := 4 }
  | 1 => { s with p := { s.p with c := 101 } }
  | 2 => { s with p := { s.p with b := -2 } }
  | 3 => { s with a := { s.a with d := 39 } }
  | 4 => { s with h := 39 }
  | 5 => { s with f := { s.f with a := 16 } }
  | 6 => s
  | 7 => s
  | 8 => s
  | 9 => s
  | 10 => { s with p := ⟨100, 100, -1, 0⟩, a := ⟨38, 1, 2, 3⟩, f := ⟨15, 15, 15, 15⟩ }
  | _ => { s with h := 38 }
def spX (xs : List Int) : Nat → List Int
  | 8 => xs ++ [38]
  | _ => xs
def spA (xs ac : List Int) : Nat → List Int
  | 6 => ac ++ [0]
  | 7 => ac ++ [Int.ofNat xs.length]
  | 9 => -1 :: ac
  | _ => ac
noncomputable def smE2 (Q : NQm) (j w : Nat) : Option (XE × List PV × List (Code × Code)) :=
  bif Q.Y.G (spS (smSt j).1 w) (spX (smXs j) w) (spA (smXs j) (smAc j) w) && (Q.Y.BY 1 && Q.Y.BY 0) then some (.normal, .i (Int.ofNat (w + 1)) :: smLs, []) else none
noncomputable def smR2 (Q : NQm) (rd : Option Nat) (j w : Nat) : Option (XE × List PV × List (Code × Code)) := roundX Tryz.prog (orcQm Q emptyTab) noLoops 100 0 rd 3 smLp2 (smT2 j) (smT2 j) (fun _ => smX2 j) (.i (Int.ofNat w) :: smLs)
end Go.Proofs.YtojlmpcbplepcaaGreat

/- Chapter 10: the law IrregularSmall: the spoilt courses, number by number (0). -/
namespace Go.Proofs.YtojlmpcbplepcaaGreat
open Go Go.Eng
theorem sm2_0 (Q : NQm) (rd : Option Nat) : ∀ w : Nat, w < 12 → smR2 Q rd 0 w = smE2 Q 0 w
  | 0, _ => by kernel_rfl
  | 1, _ => by kernel_rfl
  | 2, _ => by kernel_rfl
  | 3, _ => by kernel_rfl
  | 4, _ => by kernel_rfl
  | 5, _ => by kernel_rfl
  | 6, _ => by kernel_rfl
  | 7, _ => by kernel_rfl
  | 8, _ => by kernel_rfl
  | 9, _ => by kernel_rfl
  | 10, _ => by kernel_rfl
  | 11, _ => by kernel_rfl
  | n + 12, h => absurd h (by omega)
theorem sm2x_0 (Q : NQm) (rd : Option Nat) : smR2 Q rd 0 12 = some (.exit 4, smLs, []) := by kernel_rfl
theorem sm2_1 (Q : NQm) (rd : Option Nat) : ∀ w : Nat, w < 12 → smR2 Q rd 1 w = smE2 Q 1 w
  | 0, _ => by kernel_rfl
  | 1, _ => by kernel_rfl
  | 2, _ => by kernel_rfl
  | 3, _ => by kernel_rfl
  | 4, _ => by kernel_rfl
  | 5, _ => by kernel_rfl
  | 6, _ => by kernel_rfl
  | 7, _ => by kernel_rfl
  | 8, _ => by kernel_rfl
  | 9, _ => by kernel_rfl
  | 10, _ => by kernel_rfl
  | 11, _ => by kernel_rfl
  | n + 12, h => absurd h (by omega)
theorem sm2x_1 (Q : NQm) (rd : Option Nat) : smR2 Q rd 1 12 = some (.exit 4, smLs, []) := by kernel_rfl
theorem sm2_2 (Q : NQm) (rd : Option Nat) : ∀ w : Nat, w < 12 → smR2 Q rd 2 w = smE2 Q 2 w
  | 0, _ => by kernel_rfl
  | 1, _ => by kernel_rfl
  | 2, _ => by kernel_rfl
  | 3, _ => by kernel_rfl
  | 4, _ => by kernel_rfl
  | 5, _ => by kernel_rfl
  | 6, _ => by kernel_rfl
  | 7, _ => by kernel_rfl
  | 8, _ => by kernel_rfl
  | 9, _ => by kernel_rfl
  | 10, _ => by kernel_rfl
  | 11, _ => by kernel_rfl
  | n + 12, h => absurd h (by omega)
theorem sm2x_2 (Q : NQm) (rd : Option Nat) : smR2 Q rd 2 12 = some (.exit 4, smLs, []) := by kernel_rfl
theorem sm2_3 (Q : NQm) (rd : Option Nat) : ∀ w : Nat, w < 12 → smR2 Q rd 3 w = smE2 Q 3 w
  | 0, _ => by kernel_rfl
  | 1, _ => by kernel_rfl
  | 2, _ => by kernel_rfl
  | 3, _ => by kernel_rfl
  | 4, _ => by kernel_rfl
  | 5, _ => by kernel_rfl
  | 6, _ => by kernel_rfl
  | 7, _ => by kernel_rfl
  | 8, _ => by kernel_rfl
  | 9, _ => by kernel_rfl
  | 10, _ => by kernel_rfl
  | 11, _ => by kernel_rfl
  | n + 12, h => absurd h (by omega)
theorem sm2x_3 (Q : NQm) (rd : Option Nat) : smR2 Q rd 3 12 = some (.exit 4, smLs, []) := by kernel_rfl
end Go.Proofs.YtojlmpcbplepcaaGreat

/- Chapter 10: the law IrregularSmall: the spoilt courses, number by number (1). -/
namespace Go.Proofs.YtojlmpcbplepcaaGreat
open Go Go.Eng
theorem sm2_4 (Q : NQm) (rd : Option Nat) : ∀ w : Nat, w < 12 → smR2 Q rd 4 w = smE2 Q 4 w
  | 0, _ => by kernel_rfl
  | 1, _ => by kernel_rfl
  | 2, _ => by kernel_rfl
  | 3, _ => by kernel_rfl
  | 4, _ => by kernel_rfl
  | 5, _ => by kernel_rfl
  | 6, _ => by kernel_rfl
  | 7, _ => by kernel_rfl
  | 8, _ => by kernel_rfl
  | 9, _ => by kernel_rfl
  | 10, _ => by kernel_rfl
  | 11, _ => by kernel_rfl
  | n + 12, h => absurd h (by omega)
theorem sm2x_4 (Q : NQm) (rd : Option Nat) : smR2 Q rd 4 12 = some (.exit 4, smLs, []) := by kernel_rfl
theorem sm2_5 (Q : NQm) (rd : Option Nat) : ∀ w : Nat, w < 12 → smR2 Q rd 5 w = smE2 Q 5 w
  | 0, _ => by kernel_rfl
  | 1, _ => by kernel_rfl
  | 2, _ => by kernel_rfl
  | 3, _ => by kernel_rfl
  | 4, _ => by kernel_rfl
  | 5, _ => by kernel_rfl
  | 6, _ => by kernel_rfl
  | 7, _ => by kernel_rfl
  | 8, _ => by kernel_rfl
  | 9, _ => by kernel_rfl
  | 10, _ => by kernel_rfl
  | 11, _ => by kernel_rfl
  | n + 12, h => absurd h (by omega)
theorem sm2x_5 (Q : NQm) (rd : Option Nat) : smR2 Q rd 5 12 = some (.exit 4, smLs, []) := by kernel_rfl
theorem sm2_6 (Q : NQm) (rd : Option Nat) : ∀ w : Nat, w < 12 → smR2 Q rd 6 w = smE2 Q 6 w
  | 0, _ => by kernel_rfl
  | 1, _ => by kernel_rfl
  | 2, _ => by kernel_rfl
  | 3, _ => by kernel_rfl
  | 4, _ => by kernel_rfl
  | 5, _ => by kernel_rfl
  | 6, _ => by kernel_rfl
  | 7, _ => by kernel_rfl
  | 8, _ => by kernel_rfl
  | 9, _ => by kernel_rfl
  | 10, _ => by kernel_rfl
  | 11, _ => by kernel_rfl
  | n + 12, h => absurd h (by omega)
theorem sm2x_6 (Q : NQm) (rd : Option Nat) : smR2 Q rd 6 12 = some (.exit 4, smLs, []) := by kernel_rfl
theorem sm2_7 (Q : NQm) (rd : Option Nat) : ∀ w : Nat, w < 12 → smR2 Q rd 7 w = smE2 Q 7 w
  | 0, _ => by kernel_rfl
  | 1, _ => by kernel_rfl
  | 2, _ => by kernel_rfl
  | 3, _ => by kernel_rfl
  | 4, _ => by kernel_rfl
  | 5, _ => by kernel_rfl
  | 6, _ => by kernel_rfl
  | 7, _ => by kernel_rfl
  | 8, _ => by kernel_rfl
  | 9, _ => by kernel_rfl
  | 10, _ => by kernel_rfl
  | 11, _ => by kernel_rfl
  | n + 12, h => absurd h (by omega)
theorem sm2x_7 (Q : NQm) (rd : Option Nat) : smR2 Q rd 7 12 = some (.exit 4, smLs, []) := by kernel_rfl
end Go.Proofs.YtojlmpcbplepcaaGreat

/- Chapter 10: the law IrregularSmall: the spoilt courses, number by number (2). -/
namespace Go.Proofs.YtojlmpcbplepcaaGreat
open Go Go.Eng
theorem sm2_8 (Q : NQm) (rd : Option Nat) : ∀ w : Nat, w < 12 → smR2 Q rd 8 w = smE2 Q 8 w
  | 0, _ => by kernel_rfl
  | 1, _ => by kernel_rfl
  | 2, _ => by kernel_rfl
  | 3, _ => by kernel_rfl
  | 4, _ => by kernel_rfl
  | 5, _ => by kernel_rfl
  | 6, _ => by kernel_rfl
  | 7, _ => by kernel_rfl
  | 8, _ => by kernel_rfl
  | 9, _ => by kernel_rfl
  | 10, _ => by kernel_rfl
  | 11, _ => by kernel_rfl
  | n + 12, h => absurd h (by omega)
theorem sm2x_8 (Q : NQm) (rd : Option Nat) : smR2 Q rd 8 12 = some (.exit 4, smLs, []) := by kernel_rfl
theorem sm2_9 (Q : NQm) (rd : Option Nat) : ∀ w : Nat, w < 12 → smR2 Q rd 9 w = smE2 Q 9 w
  | 0, _ => by kernel_rfl
  | 1, _ => by kernel_rfl
  | 2, _ => by kernel_rfl
  | 3, _ => by kernel_rfl
  | 4, _ => by kernel_rfl
  | 5, _ => by kernel_rfl
  | 6, _ => by kernel_rfl
  | 7, _ => by kernel_rfl
  | 8, _ => by kernel_rfl
  | 9, _ => by kernel_rfl
  | 10, _ => by kernel_rfl
  | 11, _ => by kernel_rfl
  | n + 12, h => absurd h (by omega)
theorem sm2x_9 (Q : NQm) (rd : Option Nat) : smR2 Q rd 9 12 = some (.exit 4, smLs, []) := by kernel_rfl
theorem sm2_10 (Q : NQm) (rd : Option Nat) : ∀ w : Nat, w < 12 → smR2 Q rd 10 w = smE2 Q 10 w
  | 0, _ => by kernel_rfl
  | 1, _ => by kernel_rfl
  | 2, _ => by kernel_rfl
  | 3, _ => by kernel_rfl
  | 4, _ => by kernel_rfl
  | 5, _ => by kernel_rfl
  | 6, _ => by kernel_rfl
  | 7, _ => by kernel_rfl
  | 8, _ => by kernel_rfl
  | 9, _ => by kernel_rfl
  | 10, _ => by kernel_rfl
  | 11, _ => by kernel_rfl
  | n + 12, h => absurd h (by omega)
theorem sm2x_10 (Q : NQm) (rd : Option Nat) : smR2 Q rd 10 12 = some (.exit 4, smLs, []) := by kernel_rfl
theorem sm2_11 (Q : NQm) (rd : Option Nat) : ∀ w : Nat, w < 12 → smR2 Q rd 11 w = smE2 Q 11 w
  | 0, _ => by kernel_rfl
  | 1, _ => by kernel_rfl
  | 2, _ => by kernel_rfl
  | 3, _ => by kernel_rfl
  | 4, _ => by kernel_rfl
  | 5, _ => by kernel_rfl
  | 6, _ => by kernel_rfl
  | 7, _ => by kernel_rfl
  | 8, _ => by kernel_rfl
  | 9, _ => by kernel_rfl
  | 10, _ => by kernel_rfl
  | 11, _ => by kernel_rfl
  | n + 12, h => absurd h (by omega)
theorem sm2x_11 (Q : NQm) (rd : Option Nat) : smR2 Q rd 11 12 = some (.exit 4, smLs, []) := by kernel_rfl
end Go.Proofs.YtojlmpcbplepcaaGreat

/- Chapter 10: the law IrregularSmall: the spoilt courses, number by number (3). -/
namespace Go.Proofs.YtojlmpcbplepcaaGreat
open Go Go.Eng
theorem sm2_12 (Q : NQm) (rd : Option Nat) : ∀ w : Nat, w < 12 → smR2 Q rd 12 w = smE2 Q 12 w
  | 0, _ => by kernel_rfl
  | 1, _ => by kernel_rfl
  | 2, _ => by kernel_rfl
  | 3, _ => by kernel_rfl
  | 4, _ => by kernel_rfl
  | 5, _ => by kernel_rfl
  | 6, _ => by kernel_rfl
  | 7, _ => by kernel_rfl
  | 8, _ => by kernel_rfl
  | 9, _ => by kernel_rfl
  | 10, _ => by kernel_rfl
  | 11, _ => by kernel_rfl
  | n + 12, h => absurd h (by omega)
theorem sm2x_12 (Q : NQm) (rd : Option Nat) : smR2 Q rd 12 12 = some (.exit 4, smLs, []) := by kernel_rfl
theorem sm2_13 (Q : NQm) (rd : Option Nat) : ∀ w : Nat, w < 12 → smR2 Q rd 13 w = smE2 Q 13 w
  | 0, _ => by kernel_rfl
  | 1, _ => by kernel_rfl
  | 2, _ => by kernel_rfl
  | 3, _ => by kernel_rfl
  | 4, _ => by kernel_rfl
  | 5, _ => by kernel_rfl
  | 6, _ => by kernel_rfl
  | 7, _ => by kernel_rfl
  | 8, _ => by kernel_rfl
  | 9, _ => by kernel_rfl
  | 10, _ => by kernel_rfl
  | 11, _ => by kernel_rfl
  | n + 12, h => absurd h (by omega)
theorem sm2x_13 (Q : NQm) (rd : Option Nat) : smR2 Q rd 13 12 = some (.exit 4, smLs, []) := by kernel_rfl
theorem sm2_14 (Q : NQm) (rd : Option Nat) : ∀ w : Nat, w < 12 → smR2 Q rd 14 w = smE2 Q 14 w
  | 0, _ => by kernel_rfl
  | 1, _ => by kernel_rfl
  | 2, _ => by kernel_rfl
  | 3, _ => by kernel_rfl
  | 4, _ => by kernel_rfl
  | 5, _ => by kernel_rfl
  | 6, _ => by kernel_rfl
  | 7, _ => by kernel_rfl
  | 8, _ => by kernel_rfl
  | 9, _ => by kernel_rfl
  | 10, _ => by kernel_rfl
  | 11, _ => by kernel_rfl
  | n + 12, h => absurd h (by omega)
theorem sm2x_14 (Q : NQm) (rd : Option Nat) : smR2 Q rd 14 12 = some (.exit 4, smLs, []) := by kernel_rfl
theorem sm2_15 (Q : NQm) (rd : Option Nat) : ∀ w : Nat, w < 12 → smR2 Q rd 15 w = smE2 Q 15 w
  | 0, _ => by kernel_rfl
  | 1, _ => by kernel_rfl
  | 2, _ => by kernel_rfl
  | 3, _ => by kernel_rfl
  | 4, _ => by kernel_rfl
  | 5, _ => by kernel_rfl
  | 6, _ => by kernel_rfl
  | 7, _ => by kernel_rfl
  | 8, _ => by kernel_rfl
  | 9, _ => by kernel_rfl
  | 10, _ => by kernel_rfl
  | 11, _ => by kernel_rfl
  | n + 12, h => absurd h (by omega)
theorem sm2x_15 (Q : NQm) (rd : Option Nat) : smR2 Q rd 15 12 = some (.exit 4, smLs, []) := by kernel_rfl
end Go.Proofs.YtojlmpcbplepcaaGreat

/- Chapter 10: the law IrregularSmall: the spoilt courses. -/
namespace Go.Proofs.YtojlmpcbplepcaaGreat
open Go Go.Eng
theorem sm2_round (Q : NQm) (rd : Option Nat) {w : Nat} (hw : w < 12) : ∀ j : Nat, j < 16 → smR2 Q rd j w = smE2 Q j w
  | 0, _ => sm2_0 Q rd w hw
  | 1, _ => sm2_1 Q rd w hw
  | 2, _ => sm2_2 Q rd w hw
  | 3, _ => sm2_3 Q rd w hw
  | 4, _ => sm2_4 Q rd w hw
  | 5, _ => sm2_5 Q rd w hw
  | 6, _ => sm2_6 Q rd w hw
  | 7, _ => sm2_7 Q rd w hw
  | 8, _ => sm2_8 Q rd w hw
  | 9, _ => sm2_9 Q rd w hw
  | 10, _ => sm2_10 Q rd w hw
  | 11, _ => sm2_11 Q rd w hw
  | 12, _ => sm2_12 Q rd w hw
  | 13, _ => sm2_13 Q rd w hw
  | 14, _ => sm2_14 Q rd w hw
  | 15, _ => sm2_15 Q rd w hw
  | n + 16, h => absurd h (by omega)
theorem sm2_exit (Q : NQm) (rd : Option Nat) : ∀ j : Nat, j < 16 → smR2 Q rd j 12 = some (.exit 4, smLs, [])
  | 0, _ => sm2x_0 Q rd
  | 1, _ => sm2x_1 Q rd
  | 2, _ => sm2x_2 Q rd
  | 3, _ => sm2x_3 Q rd
  | 4, _ => sm2x_4 Q rd
  | 5, _ => sm2x_5 Q rd
  | 6, _ => sm2x_6 Q rd
  | 7, _ => sm2x_7 Q rd
  | 8, _ => sm2x_8 Q rd
  | 9, _ => sm2x_9 Q rd
  | 10, _ => sm2x_10 Q rd
  | 11, _ => sm2x_11 Q rd
  | 12, _ => sm2x_12 Q rd
  | 13, _ => sm2x_13 Q rd
  | 14, _ => sm2x_14 Q rd
  | 15, _ => sm2x_15 Q rd
  | n + 16, h => absurd h (by omega)
theorem smT2_ok : ∀ j : Nat, j < 16 → (smT2 j).ok = true ∧ (smX2 j).ok = true
  | 0, _ => ⟨by kernel_rfl, by kernel_rfl⟩
  | 1, _ => ⟨by kernel_rfl, by kernel_rfl⟩
  | 2, _ => ⟨by kernel_rfl, by kernel_rfl⟩
  | 3, _ => ⟨by kernel_rfl, by kernel_rfl⟩
  | 4, _ => ⟨by kernel_rfl, by kernel_rfl⟩
  | 5, _ => ⟨by kernel_rfl, by kernel_rfl⟩
  | 6, _ => ⟨by kernel_rfl, by kernel_rfl⟩
  | 7, _ => ⟨by kernel_rfl, by kernel_rfl⟩
  | 8, _ => ⟨by kernel_rfl, by kernel_rfl⟩
  | 9, _ => ⟨by kernel_rfl, by kernel_rfl⟩
  | 10, _ => ⟨by kernel_rfl, by kernel_rfl⟩
  | 11, _ => ⟨by kernel_rfl, by kernel_rfl⟩
  | 12, _ => ⟨by kernel_rfl, by kernel_rfl⟩
  | 13, _ => ⟨by kernel_rfl, by kernel_rfl⟩
  | 14, _ => ⟨by kernel_rfl, by kernel_rfl⟩
  | 15, _ => ⟨by kernel_rfl, by kernel_rfl⟩
  | n + 16, h => absurd h (by omega)
def allTo (p : Nat → Bool) : Nat → Bool
  | 0 => true
  | n + 1 => p n && allTo p n
theorem allTo_at {p : Nat → Bool} : ∀ {n i : Nat}, allTo p n = true → i < n → p i = true
  | 0, _, _, h => absurd h (by omega)
  | n + 1, i, h, hi => by
    simp only [allTo, Bool.and_eq_true] at h
    rcases Nat.lt_or_ge i n with h1 | h1
    · exact allTo_at h.2 h1
    · rw [show i = n by omega]; exact h.1
theorem smG2 : allTo (fun j => allTo (fun w => gTl (spS (smSt j).1 w) (spX (smXs j) w) (spA (smXs j) (smAc j) w)) 12) 16 = true := by kernel_rfl
theorem sm2_loop (rd : Option Nat) {j : Nat} (hj : j < 16) : ∀ x : Nat, x ≤ 12 → ∃ m, SimL Tryz.prog 0 rd smLp2 m ((smT2 j).at (.i (Int.ofNat (12 - x)) :: smLs)) (.exit 4) ((smX2 j).at smLs) := by
  refine loop_of_roundsX_n (C := orcQm nQm emptyTab) (L := noLoops) (N := 100) (me := 3) (T := smT2 j) (T' := fun _ => smX2 j) (orcQm_ok emptyTab_ok) mixed noLoops_ok (smT2_ok j hj).1 (fun _ => (smT2_ok j hj).2) (X := Nat)
    (fun x => .i (Int.ofNat (12 - x)) :: smLs) (fun x => x ≤ 12) (fun x => x) (fun _ => (.exit 4, smLs)) ?_
  intro m hm
  cases m with
  | zero => exact ⟨_, _, _, sm2_exit nQm rd j hj, codesNil, .inr ⟨by simp, rfl⟩⟩
  | succ m =>
    have h := sm2_round nQm rd (w := 12 - (m + 1)) (by omega) j hj
    have hg : allTo (fun w => gTl (spS (smSt j).1 w) (spX (smXs j) w) (spA (smXs j) (smAc j) w)) 12 = true := allTo_at (p := fun j => allTo (fun w => gTl (spS (smSt j).1 w) (spX (smXs j) w) (spA (smXs j) (smAc j) w)) 12) (n := 16) smG2 hj
    unfold smE2 at h
    rw [show nQm.Y.G (spS (smSt j).1 (12 - (m + 1))) (spX (smXs j) (12 - (m + 1))) (spA (smXs j) (smAc j) (12 - (m + 1))) = true from allTo_at (p := fun w => gTl (spS (smSt j).1 w) (spX (smXs j) w) (spA (smXs j) (smAc j) w)) hg (show 12 - (m + 1) < 12 by omega), show (nQm.Y.BY 1 && nQm.Y.BY 0) = true from rfl, Bool.and_self, cond_true, show 12 - (m + 1) + 1 = 12 - m by omega] at h
    exact ⟨_, _, _, h, codesNil, .inl ⟨rfl, m, rfl, by omega, by omega, rfl⟩⟩
end Go.Proofs.YtojlmpcbplepcaaGreat
