/- Chapter 10: Right: its loop as a whole. -/
import Derived.Test.YtojlmpcbplepcaaRi
namespace Go.Proofs.Ytojlmpcbplepcaa
open Go Go.Eng
def crsP : List PV → Option (CD × List PV)
  | .i d :: .i p0 :: .i p1 :: .i p2 :: .i p3 :: .i a0 :: .i a1 :: .i a2 :: .i a3 :: .i h :: .i f0 :: .i f1 :: .i f2 :: .i f3 :: r => some (⟨d, ⟨p0, p1, p2, p3⟩, ⟨a0, a1, a2, a3⟩, h, ⟨f0, f1, f2, f3⟩⟩, r)
  | _ => none
theorem crsP_ok {l : List PV} {s : CD} {r : List PV} (h : crsP l = some (s, r)) : l = s.pv r := by
  unfold crsP at h
  split at h
  · cases h; rfl
  · cases h
/-- The names of Right's loop. -/
structure NR where
  RB : Int → List Int → List Int → Bool
  RM : Int → List Int → List Int → Nat
  OK : List Int → Bool
def nR : NR := ⟨fun d xs ac => (rtF d xs ac xs 0 0).1, fun d xs ac => (rtF d xs ac xs 0 0).2, okL⟩
noncomputable def riTree (N : NR) (n1 n2 : Bool) : List PV → Fin
  | .b r :: .i m :: .i n :: .i i :: .l xs :: .l ac :: ps => match crsP ps with
    | some (s, []) => .br (decide (r = false ∧ m = 0 ∧ n = Int.ofNat xs.length ∧ i = 0) && N.OK xs) (.br (N.RB s.d xs ac) (.leaf (.exit 2) ((riX n1 n2).at (riOut false (N.RM s.d xs ac) xs ac s))) (.leaf .ret ((riX n1 n2).at (riOut false (N.RM s.d xs ac) xs ac s)))) .no
    | _ => .no
  | _ => .no
noncomputable def riL (N : NR) (n1 n2 : Bool) : Loops := sums (fun n => match n with | 11 => some (lsumF 2 (riT n1 n2) riLp (riTree N n1 n2)) | _ => none)
theorem riL_ok (n1 n2 : Bool) : loopsOk Try.prog (riL nR n1 n2) := by
  intro n g hg
  simp only [riL, sums] at hg
  split at hg
  · cases hg
    refine lsumF_ok (by cases n1 <;> cases n2 <;> kernel_rfl) (fun rd ps e1 st1 hq => ?_)
    unfold riTree at hq
    split at hq
    · rename_i r m n i xs ac ps
      split at hq
      · rename_i s hs
        rw [crsP_ok hs]
        simp only [Fin.pick] at hq
        cases hc : decide (r = false ∧ m = 0 ∧ n = Int.ofNat xs.length ∧ i = 0) && nR.OK xs with
        | false => rw [hc] at hq; cases hq
        | true =>
          rw [hc, cond_true] at hq
          simp only [Bool.and_eq_true, decide_eq_true_eq] at hc
          obtain ⟨⟨rfl, rfl, rfl, rfl⟩, h1⟩ := hc
          have := ri_loop n1 n2 rd xs ac s h1 (0, 0) ⟨Nat.zero_le _, Nat.le_refl _⟩
          rw [List.drop_zero] at this
          unfold riFin at this
          cases hr : nR.RB s.d xs ac with
          | true => rw [hr] at hq; rw [show (rtF s.d xs ac xs 0 0).1 = true from hr] at this; cases hq; exact this
          | false => rw [hr] at hq; rw [show (rtF s.d xs ac xs 0 0).1 = false from hr] at this; cases hq; exact this
      · cases hq
    · cases hq
  · cases hg
end Go.Proofs.Ytojlmpcbplepcaa
