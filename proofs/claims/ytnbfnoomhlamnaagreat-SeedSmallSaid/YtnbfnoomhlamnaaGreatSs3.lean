/- Texts merged: Ss3, Ss4. -/
import Derived.Test.YtnbfnoomhlamnaaGreatSs2
/- Chapter 3: SeedSmall: the outer loop. -/
namespace Go.Proofs.YtnbfnoomhlamnaaGreat
open Go Go.Eng
noncomputable def smL3 : Loops := sums (fun n => match n with | 11 => some (lsumD 0 smT3 smLp3 smTree3 noSum) | _ => none)
theorem pick_pBX {p : Prop} {e e1 : XE} {s s1 : AS} (h : (Fin.br (pB p) (.leaf e s) .no).pick = some (e1, s1)) : p ∧ e = e1 ∧ s = s1 := by
  simp only [Fin.pick] at h
  cases hp : pB p with
  | false => rw [hp] at h; cases h
  | true =>
    rw [hp, cond_true] at h
    cases h
    exact ⟨pB_iff.1 hp, rfl, rfl⟩
theorem smTree3_ok (rd : Option Nat) (ps : List PV) (e : XE) (s : AS) (h : (smTree3 ps).pick = some (e, s)) : SimC Tryz.prog 0 rd (.loop smLp3) (smT3.at ps) e s := by
  unfold smTree3 at h
  split at h
  · rename_i i a s k n j p q
    obtain ⟨⟨rfl, h0, h1, rfl, rfl⟩, rfl, rfl⟩ := pick_pBX h
    obtain ⟨m, hm⟩ := sm_loop rd i a n j h0 h1 (60, s) (Nat.le_refl _)
    exact hm.loop
  · cases h
theorem smL3_ok : loopsOk Tryz.prog smL3 := by
  intro n g hg
  simp only [smL3, sums] at hg
  split at hg
  · cases hg; exact lsumD_ok (by kernel_rfl) smTree3_ok noSum_ok
  · cases hg
theorem so_round (Q : QS) (rd : Option Nat) (n j : Int) (p q : List Int) : roundX Tryz.prog (orcQ Q) smL3 100 0 rd 3 smLp2 smT2 smT2 (fun _ => smX2) [.i n, .i j, .l p, .l q] =
    bif decide (j < n) then atU p j (fun _ => bif codesB [(smLp3, smLp3)] then bif pB ((0 : Int) = 0 ∧ 0 ≤ j ∧ j < 17 ∧ p = lims ∧ q = pows) then
      bif Q.IN 0 0 0 16777216 then bif Q.IN 1 0 0 16777216 then bif Q.IN 0 0 0 0 then bif Q.IN 0 0 0 16777216 then some (.normal, [.i n, .i (wr .i64 (j + 1)), .l p, .l q], []) else none else none else none else none else none else none)
    else some (.exit 2, [], []) := by kernel_rfl
theorem so_loop (rd : Option Nat) : ∀ x : Nat, x ≤ 17 → ∃ m, SimL Tryz.prog 0 rd smLp2 m (smT2.at [.i 17, .i ((17 - x : Nat) : Int), .l lims, .l pows]) (.exit 2) (smX2.at []) := by
  refine loop_of_roundsX_n (C := orcQ qS) (L := smL3) (N := 100) (me := 3) (T := smT2) (T' := fun _ => smX2) orcQ_ok mixed smL3_ok (by kernel_rfl) (fun _ => by kernel_rfl) (X := Nat)
    (fun x => [.i 17, .i ((17 - x : Nat) : Int), .l lims, .l pows]) (fun x => x ≤ 17) (fun x => x) (fun _ => (.exit 2, [])) ?_
  intro m hm
  have h := so_round qS rd 17 ((17 - m : Nat) : Int) lims pows
  cases m with
  | zero =>
    rw [decide_eq_false (show ¬ ((17 - 0 : Nat) : Int) < 17 by omega), cond_false] at h
    exact ⟨_, _, _, h, codesK, .inr ⟨by simp, rfl⟩⟩
  | succ m =>
    rw [decide_eq_true (show ((17 - (m + 1) : Nat) : Int) < 17 by omega), cond_true, atU_at (show 17 - (m + 1) < lims.length by show _ < 17; omega), lpK, cond_true, pB_iff.2 (show (0 : Int) = 0 ∧ 0 ≤ ((17 - (m + 1) : Nat) : Int) ∧ ((17 - (m + 1) : Nat) : Int) < 17 ∧ lims = lims ∧ pows = pows from ⟨rfl, by omega, by omega, rfl, rfl⟩),
      show qS.IN 0 0 0 16777216 = true from rfl, show qS.IN 1 0 0 16777216 = true from rfl, show qS.IN 0 0 0 0 = true from rfl, wrK (by omega) (by omega), show ((17 - (m + 1) : Nat) : Int) + 1 = ((17 - m : Nat) : Int) by omega] at h
    exact ⟨_, _, _, h, codesK, .inl ⟨rfl, m, rfl, by omega, by omega, rfl⟩⟩
noncomputable def smTree2 : List PV → Fin
  | [.i n, .i j, .l p, .l q] => .br (pB (n = 17 ∧ j = 0 ∧ p = lims ∧ q = pows)) (.leaf (.exit 2) (smX2.at [])) .no
  | _ => .no
noncomputable def smL2 : Loops := sums (fun n => match n with | 7 => some (lsumD 0 smT2 smLp2 smTree2 noSum) | _ => none)
theorem smL2_ok : loopsOk Tryz.prog smL2 := by
  intro n g hg
  simp only [smL2, sums] at hg
  split at hg
  · cases hg
    refine lsumD_ok (by kernel_rfl) (fun rd ps e s h => ?_) noSum_ok
    unfold smTree2 at h
    split at h
    · obtain ⟨⟨rfl, rfl, rfl, rfl⟩, rfl, rfl⟩ := pick_pBX h
      obtain ⟨m, hm⟩ := so_loop rd 17 (Nat.le_refl _)
      exact hm.loop
    · cases h
  · cases hg
end Go.Proofs.YtnbfnoomhlamnaaGreat

/- Chapter 3: SeedSmall's law is true. -/
namespace Go.Proofs.YtnbfnoomhlamnaaGreat
open Go Go.Eng
theorem small_eval (Q : QS) : evalFn Tryz.prog (orcQ Q) smL2 100 3 Tryz.f3 [] [] (fun v _ => some v) =
    bif codesB [(smLp2, smLp2)] then bif pB ((17 : Int) = 17 ∧ (0 : Int) = 0 ∧ lims = lims ∧ pows = pows) then
    bif decide (Q.S.SE 5 (List.replicate 10000 0) = 0) then bif decide (Int.ofNat (Q.S.SV 5 (List.replicate 10000 0)).length = 10000) then
    bif decide (Q.S.SE 5 (List.replicate 10001 0) = 5) then bif decide (Int.ofNat (Q.S.SV 5 (List.replicate 10001 0)).length = 0) then
    bif decide (Q.S.SE 0 (List.replicate 10001 0) = 2) then bif decide (Int.ofNat (Q.S.SV 0 (List.replicate 10001 0)).length = 0) then some (.bool true) else some (.bool false)
    else some (.bool false) else some (.bool false) else some (.bool false) else some (.bool false) else some (.bool false) else none else none := by kernel_rfl
theorem right5 : rightB 5 = true := rfl
theorem rep_lt (n : Nat) (b : Bool) (h : (10000 < n) ↔ b = true) : decide ((10000 : Int) < Int.ofNat (List.replicate n (0 : Int)).length) = b := by
  rw [List.length_replicate]
  cases b with
  | true => exact decide_eq_true (by have := h.2 rfl; show (10000 : Int) < (n : Int); omega)
  | false => exact decide_eq_false (fun h2 => by have h2 : (10000 : Int) < (n : Int) := h2; have := h.1 (by omega); cases this)
theorem small_true : evalFn Tryz.prog (orcQ qS) smL2 100 3 Tryz.f3 [] [] (fun v _ => some v) = some (.bool true) := by
  have e1 : SE 5 (List.replicate 10000 0) = 0 := by unfold SE; rw [right5, rep_lt 10000 false (by simp)]; rfl
  have e2 : (SV 5 (List.replicate 10000 0)).length = 10000 := by
    unfold SV SB
    rw [right5, decide_eq_true (show (List.replicate 10000 (0 : Int)).length ≤ 10000 by rw [List.length_replicate]; omega), Bool.and_true, cond_true, shufR_len, List.length_replicate]
  have e3 : SE 5 (List.replicate 10001 0) = 5 := by unfold SE; rw [right5, rep_lt 10001 true (by simp)]; rfl
  have e4 : (SV 5 (List.replicate 10001 0)).length = 0 := by
    unfold SV SB
    rw [right5, decide_eq_false (show ¬ (List.replicate 10001 (0 : Int)).length ≤ 10000 by rw [List.length_replicate]; omega)]; rfl
  have e5 : SE 0 (List.replicate 10001 0) = 2 := by unfold SE; rw [show rightB 0 = false from rfl]; rfl
  have e6 : (SV 0 (List.replicate 10001 0)).length = 0 := by unfold SV SB; rw [show rightB 0 = false from rfl]; rfl
  have hS : qS.S.SE = SE := rfl
  have hV : qS.S.SV = SV := rfl
  rw [small_eval, hS, hV, lpK, pB_iff.2 ⟨rfl, rfl, rfl, rfl⟩, e1, e2, e3, e4, e5, e6]
  rfl
end Go.Proofs.YtnbfnoomhlamnaaGreat
