/- Chapter 10: Contract: its loops as wholes. -/
import Derived.Test.YtojlmpcbplepcaaCt
namespace Go.Proofs.Ytojlmpcbplepcaa
open Go Go.Eng
def mxL : List Int → Int → Int
  | [], r => r
  | x :: q, r => mxL q (foldI maxI r [x])
theorem ca_loop (rd : Option Nat) (z dn : Int) (l k : Nat) (xs ac : List Int) (s : CD) (t f : Q4) (hl : l + k = xs.length) (hs : xs.length ≤ 100000) : ∀ x : Nat × Int, x.1 ≤ k →
    SimC Try.prog 2 rd (.loop caLp) (caT.at (caIn z dn l k (k : Int) (x.1 : Int) xs ac s t { f with c := x.2 })) (.exit 1) (caX.at (caOut z dn xs ac s t { f with c := mxL (xs.drop (l + x.1)) x.2 })) := by
  refine loop_of_rounds (C := orcJ nJ (tabC mkI) plainL) (L := noLoops) (N := 100) (me := 23) (T := caT) (T' := caX) (orcJ_ok tabC_ok plainL_ok) mixed noLoops_ok (by kernel_rfl) (by kernel_rfl) (X := Nat × Int)
    (fun x => caIn z dn l k (k : Int) (x.1 : Int) xs ac s t { f with c := x.2 }) (fun x => x.1 ≤ k) (fun x => k - x.1) (fun x => (.exit 1, caOut z dn xs ac s t { f with c := mxL (xs.drop (l + x.1)) x.2 })) ?_
  rintro ⟨i, r⟩ hi
  dsimp only at hi ⊢
  have key := ca_round mkI rd z dn l k (k : Int) (i : Int) xs ac s t { f with c := r }
  have z1 : Int.ofNat k = (k : Int) := rfl
  rcases Nat.lt_or_ge i k with hlt | hge
  · rw [z1, decide_eq_true (show (i : Int) < (k : Int) by omega), cond_true, decide_eq_true (show 0 ≤ (i : Int) ∧ (i : Int) < (k : Int) ∧ l + k ≤ xs.length by omega), cond_true, addS_eq, show ((i : Int)).toNat = i from rfl, atN_get (by omega), wr64 (n := (i : Int) + 1) (by omega) (by omega)] at key
    refine ⟨_, _, _, key, codesNil, .inl ⟨rfl, (i + 1, foldI maxI r [xs.getD (l + i) 0]), rfl, by dsimp only; omega, by dsimp only; omega, ?_⟩⟩
    dsimp only
    have hli : l + i < xs.length := by omega
    rw [List.drop_eq_getElem_cons hli, show l + (i + 1) = l + i + 1 by omega]
    have hg : xs.getD (l + i) 0 = xs[l + i] := by rw [List.getD_eq_getElem?_getD, List.getElem?_eq_getElem hli]; rfl
    rw [hg]; rfl
  · rw [decide_eq_false (show ¬ (i : Int) < (k : Int) by omega), cond_false] at key
    refine ⟨_, _, _, key, codesNil, .inr ⟨by simp, ?_⟩⟩
    rw [List.drop_eq_nil_of_le (by omega)]; rfl
/-- The first bid of a denomination, every second call. -/
def fdB (xs : List Int) (dn : Int) (z : Nat) : Nat → Nat → Option Nat
  | 0, _ => none
  | n + 1, i => bif decide (i ≤ z) then bif isBid (xs.getD i 0) && decide (dnZ (xs.getD i 0) = dn) then some i else fdB xs dn z n (i + 2) else none
def fdQ (d : Int) (f : Q4) : Option Nat → Q4
  | none => f
  | some i => { f with d := mkI d (i : Int) }
theorem cb_loop (rd : Option Nat) (z : Nat) (dn : Int) (xs ac : List Int) (s : CD) (t f : Q4) (hz : z < xs.length) (hs : xs.length ≤ 100000) : ∀ x : Nat × Nat, (z + 1 ≤ x.1 + x.2 ∧ x.2 ≤ z + 2) →
    SimC Try.prog 2 rd (.loop cbLp) (cbT.at (cbIn (z : Int) dn (x.2 : Int) xs ac s t f)) (.exit 3) (cbX.at (cbOut xs ac s t (fdQ s.d f (fdB xs dn z x.1 x.2)))) := by
  refine loop_of_rounds (C := orcJ nJ (tabC mkI) plainL) (L := noLoops) (N := 100) (me := 23) (T := cbT) (T' := cbX) (orcJ_ok tabC_ok plainL_ok) mixed noLoops_ok (by kernel_rfl) (by kernel_rfl) (X := Nat × Nat)
    (fun x => cbIn (z : Int) dn (x.2 : Int) xs ac s t f) (fun x => z + 1 ≤ x.1 + x.2 ∧ x.2 ≤ z + 2) (fun x => x.1) (fun x => (.exit 3, cbOut xs ac s t (fdQ s.d f (fdB xs dn z x.1 x.2)))) ?_
  rintro ⟨n, i⟩ ⟨hn, hi⟩
  dsimp only at hn hi ⊢
  have key := cb_round mkI rd (z : Int) dn (i : Int) xs ac s t f
  have z1 : Int.ofNat xs.length = (xs.length : Int) := rfl
  rcases Nat.lt_or_ge z i with hlt | hge
  · rw [decide_eq_false (show ¬ (i : Int) ≤ (z : Int) by omega), cond_false] at key
    refine ⟨_, _, _, key, codesNil, .inr ⟨by simp, ?_⟩⟩
    have e : fdB xs dn z n i = none := by
      cases n with
      | zero => rfl
      | succ n => unfold fdB; rw [decide_eq_false (by omega)]; rfl
    rw [e]; rfl
  · obtain ⟨n, rfl⟩ : ∃ m, n = m + 1 := ⟨n - 1, by omega⟩
    rw [z1, decide_eq_true (show (i : Int) ≤ (z : Int) by omega), cond_true, decide_eq_true (show 0 ≤ (i : Int) ∧ (i : Int) < (xs.length : Int) by omega), cond_true, show ((i : Int)).toNat = i from rfl, atN_get (by omega), wr64 (n := (i : Int) + 2) (by omega) (by omega)] at key
    have e : fdB xs dn z (n + 1) i = bif isBid (xs.getD i 0) && decide (dnZ (xs.getD i 0) = dn) then some i else fdB xs dn z n (i + 2) := by
      rw [fdB, decide_eq_true hge]; rfl
    rw [e]
    cases h1 : isBid (xs.getD i 0) with
    | false =>
      rw [h1, cond_false] at key
      exact ⟨_, _, _, key, codesNil, .inl ⟨rfl, (n, i + 2), rfl, ⟨by dsimp only; omega, by dsimp only; omega⟩, by dsimp only; omega, rfl⟩⟩
    | true =>
      rw [h1, cond_true] at key
      cases h2 : decide (dnZ (xs.getD i 0) = dn) with
      | true => rw [h2, cond_true] at key; exact ⟨_, _, _, key, codesNil, .inr ⟨by simp, rfl⟩⟩
      | false =>
        rw [h2, cond_false] at key
        exact ⟨_, _, _, key, codesNil, .inl ⟨rfl, (n, i + 2), rfl, ⟨by dsimp only; omega, by dsimp only; omega⟩, by dsimp only; omega, rfl⟩⟩
/-! ### both as wholes -/
structure NX where
  MX : List Int → Int → Int
  FD : List Int → Int → Int → Int → Option Nat
  OK : List Int → Bool
def nX : NX := ⟨mxL, fun xs dn z i => fdB xs dn z.toNat (z.toNat + 1) i.toNat, fun xs => decide (xs.length ≤ 100000)⟩
def q4P : List PV → Option (Q4 × List PV)
  | .i a :: .i b :: .i c :: .i d :: r => some (⟨a, b, c, d⟩, r)
  | _ => none
theorem q4P_ok {l : List PV} {q : Q4} {r : List PV} (h : q4P l = some (q, r)) : l = q4p q r := by
  unfold q4P at h
  split at h
  · cases h; rfl
  · cases h
noncomputable def caTree (N : NX) : List PV → Fin
  | .i z :: .i dn :: .n l :: .n k :: .i n :: .i i :: .l xs :: .l ac :: ps => match crsP ps with
    | some (s, ps2) => match q4P ps2 with
      | some (t, ps3) => match q4P ps3 with
        | some (f, []) => .br (decide (i = 0 ∧ n = Int.ofNat k ∧ l + k = xs.length) && N.OK xs) (.leaf (.exit 1) (caX.at (caOut z dn xs ac s t { f with c := N.MX (xs.drop l) f.c }))) .no
        | _ => .no
      | _ => .no
    | _ => .no
  | _ => .no
noncomputable def cbTree (N : NX) : List PV → Fin
  | .i z :: .i dn :: .i i :: .l xs :: .l ac :: ps => match crsP ps with
    | some (s, ps2) => match q4P ps2 with
      | some (t, ps3) => match q4P ps3 with
        | some (f, []) => .br (decide (0 ≤ z ∧ z < Int.ofNat xs.length ∧ 0 ≤ i ∧ i ≤ z + 2) && N.OK xs) (.leaf (.exit 3) (cbX.at (cbOut xs ac s t (fdQ s.d f (N.FD xs dn z i))))) .no
        | _ => .no
      | _ => .no
    | _ => .no
  | _ => .no
noncomputable def ctL (N : NX) : Loops := sums (fun n => match n with | 12 => some (lsumF 2 caT caLp (caTree N)) | 17 => some (lsumF 2 cbT cbLp (cbTree N)) | _ => none)
theorem ctL_ok : loopsOk Try.prog (ctL nX) := by
  intro n g hg
  simp only [ctL, sums] at hg
  split at hg
  · cases hg
    refine lsumF_ok (by kernel_rfl) (fun rd ps e1 st1 hq => ?_)
    unfold caTree at hq
    split at hq
    · rename_i z dn l k n i xs ac ps
      split at hq
      · rename_i s ps2 hs
        split at hq
        · rename_i t ps3 ht
          split at hq
          · rename_i f hf
            rw [crsP_ok hs, q4P_ok ht, q4P_ok hf]
            simp only [Fin.pick] at hq
            cases hc : decide (i = 0 ∧ n = Int.ofNat k ∧ l + k = xs.length) && nX.OK xs with
            | false => rw [hc] at hq; cases hq
            | true =>
              rw [hc, cond_true] at hq
              simp only [Bool.and_eq_true, decide_eq_true_eq] at hc
              obtain ⟨⟨rfl, rfl, h1⟩, h2⟩ := hc
              cases hq
              exact ca_loop rd z dn l k xs ac s t f h1 (of_decide_eq_true h2) (0, f.c) (Nat.zero_le _)
          · cases hq
        · cases hq
      · cases hq
    · cases hq
  · cases hg
    refine lsumF_ok (by kernel_rfl) (fun rd ps e1 st1 hq => ?_)
    unfold cbTree at hq
    split at hq
    · rename_i z dn i xs ac ps
      split at hq
      · rename_i s ps2 hs
        split at hq
        · rename_i t ps3 ht
          split at hq
          · rename_i f hf
            rw [crsP_ok hs, q4P_ok ht, q4P_ok hf]
            simp only [Fin.pick] at hq
            cases hc : decide (0 ≤ z ∧ z < Int.ofNat xs.length ∧ 0 ≤ i ∧ i ≤ z + 2) && nX.OK xs with
            | false => rw [hc] at hq; cases hq
            | true =>
              rw [hc, cond_true] at hq
              simp only [Bool.and_eq_true, decide_eq_true_eq] at hc
              obtain ⟨⟨h1, h2, h3, h4⟩, h5⟩ := hc
              obtain ⟨zn, rfl⟩ : ∃ m : Nat, z = m := ⟨z.toNat, by omega⟩
              obtain ⟨j, rfl⟩ : ∃ m : Nat, i = m := ⟨i.toNat, by omega⟩
              have h2 : (zn : Int) < (xs.length : Int) := h2
              cases hq
              exact cb_loop rd zn dn xs ac s t f (by omega) (of_decide_eq_true h5) (zn + 1, j) ⟨by dsimp only; omega, by dsimp only; omega⟩
          · cases hq
        · cases hq
      · cases hq
    · cases hq
  · cases hg
end Go.Proofs.Ytojlmpcbplepcaa
