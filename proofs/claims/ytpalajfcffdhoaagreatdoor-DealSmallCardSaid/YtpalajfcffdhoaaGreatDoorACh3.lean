/- Texts merged: ACh3, APas. -/
import Derived.Test.YtpalajfcffdhoaaGreatDoorAAw0
/- Chapter 2: Choose's contract. -/
namespace Go.Proofs.YtpalajfcffdhoaaGreatDoor.N2
open Go Go.Eng
theorem rowL_get {i K x : Nat} (hx : x < 65) : (rowL i K)[x]? = some (if x ≤ K then ch i x % 340282366920938463463374607431768211456 else 0) := by
  unfold rowL
  rw [List.getElem?_map, List.getElem?_range hx]; rfl
theorem rowL_len (i K : Nat) : (rowL i K).length = 65 := by simp [rowL]
theorem ch_loop1 (rd : Option Nat) (K n : Nat) (hK : K ≤ 64) (hn : n ≤ 128) : ∀ i : Nat, i ≤ n →
    SimC Tryz.prog 7 rd (.loop chLp1) (chT1.at [.i (i : Int), .i (n : Int), .i (K : Int), .i 0, .i 0, .i 0, .i 0, .i (K : Int), .l (flat (rowL i K))]) .ret
      (chX0.at [.i (n : Int), .i (K : Int), .i (w0 (ch n K : Nat)), .i (w1 (ch n K : Nat)), .i (w2 (ch n K : Nat)), .i (w3 (ch n K : Nat)), .i (K : Int), .l (flat (rowL n K))]) := by
  refine loop_of_rounds (C := orcP tabA plainL) (L := chL2 125) (N := 200) (me := 125) (T := chT1) (T' := chX0) (orcP_ok tabA_ok plainL_ok) mixed (chL2_ok 125) (by kernel_rfl) (by kernel_rfl) (X := Nat)
    (fun i => [.i (i : Int), .i (n : Int), .i (K : Int), .i 0, .i 0, .i 0, .i 0, .i (K : Int), .l (flat (rowL i K))]) (fun i => i ≤ n) (fun i => n - i)
    (fun _ => (.ret, [.i (n : Int), .i (K : Int), .i (w0 (ch n K : Nat)), .i (w1 (ch n K : Nat)), .i (w2 (ch n K : Nat)), .i (w3 (ch n K : Nat)), .i (K : Int), .l (flat (rowL n K))])) ?_
  intro i hi
  have h := ch_round1 rd i n K 0 0 0 0 K (flat (rowL i K))
  have hl : (flat (rowL i K)).length = 260 := by rw [flat_len, rowL_len]
  rw [hl, decide_eq_true (show (i : Int) < 129 by omega), decide_eq_true (show 0 + 260 ≤ 260 by omega), cpy_eq hl] at h
  simp only [cond_true] at h
  by_cases e : i = n
  · subst e
    have g := rowL_get (i := i) (K := K) (x := K) (by omega)
    rw [if_pos (Nat.le_refl _)] at g
    obtain ⟨a0, a1, a2, a3⟩ := flat_get g
    obtain ⟨q0, q1, q2, q3⟩ := w_mod ((ch i K : Nat) : Int)
    rw [show ((ch i K % 340282366920938463463374607431768211456 : Nat) : Int) = ((ch i K : Nat) : Int) % 340282366920938463463374607431768211456 by omega, q0] at a0
    rw [show ((ch i K % 340282366920938463463374607431768211456 : Nat) : Int) = ((ch i K : Nat) : Int) % 340282366920938463463374607431768211456 by omega, q1] at a1
    rw [show ((ch i K % 340282366920938463463374607431768211456 : Nat) : Int) = ((ch i K : Nat) : Int) % 340282366920938463463374607431768211456 by omega, q2] at a2
    rw [show ((ch i K % 340282366920938463463374607431768211456 : Nat) : Int) = ((ch i K : Nat) : Int) % 340282366920938463463374607431768211456 by omega, q3] at a3
    rw [decide_eq_true rfl, decide_eq_true (show 0 ≤ (K : Int) ∧ (K : Int) < 65 by omega), show ((K : Int)).toNat = K by omega, decide_eq_true (show K * 4 + 4 ≤ 260 by omega), a0, a1, a2, a3] at h
    exact ⟨_, _, _, h, chCodes, .inr ⟨by simp, rfl⟩⟩
  · have hcd : codesB [(chLp2, chLp2), (chA, chA), (chB, chB)] = true := by
      rw [codesB_iff]; intro x hx; simp at hx; rcases hx with rfl | rfl | rfl <;> rfl
    have hf : foldI minI (K : Int) [wr .i64 ((i : Int) + 1)] = ((min K (i + 1) : Nat) : Int) := by
      rw [wr64 (by omega) (by omega)]
      simp only [foldI, minI]
      by_cases hlt : (i : Int) + 1 < K
      · rw [decide_eq_true hlt]; simp only [cond_true]; omega
      · rw [decide_eq_false hlt]; simp only [cond_false]; omega
    rw [decide_eq_false (show ¬ (i : Int) = n by omega), hcd, hf, show ((i : Int)).toNat = i by omega, show ((K : Int)).toNat = K by omega, pB_iff.2 ⟨by omega, by omega, by omega, by omega, rfl, rfl⟩, wr64 (by omega) (by omega)] at h
    exact ⟨_, _, _, h, chCodes, .inl ⟨rfl, i + 1, rfl, by omega, by omega, rfl⟩⟩
noncomputable def chTree1 : List PV → Fin
  | [.i i, .i n, .i k, .i f0, .i f1, .i f2, .i f3, .i k2, .l xs] => .br (pB (i = 0 ∧ 0 ≤ n ∧ n ≤ 128 ∧ 0 ≤ k ∧ k ≤ 64 ∧ f0 = 0 ∧ f1 = 0 ∧ f2 = 0 ∧ f3 = 0 ∧ k2 = k ∧ xs = flat (rowL 0 k.toNat)))
      (.leaf .ret (chX0.at [.i n, .i k, .i (w0 (ch n.toNat k.toNat : Nat)), .i (w1 (ch n.toNat k.toNat : Nat)), .i (w2 (ch n.toNat k.toNat : Nat)), .i (w3 (ch n.toNat k.toNat : Nat)), .i k, .l (flat (rowL n.toNat k.toNat))])) .no
  | _ => .no
noncomputable def chSum1 : LoopSum := lsumF 7 chT1 chLp1 chTree1
theorem chSum1_ok : LoopOk Tryz.prog chSum1 := by
  refine lsumF_ok (by kernel_rfl) (fun rd ps e1 st1 h => ?_)
  unfold chTree1 at h
  split at h
  · rename_i i n k f0 f1 f2 f3 k2 xs
    simp only [Fin.pick] at h
    cases hc : pB (i = 0 ∧ 0 ≤ n ∧ n ≤ 128 ∧ 0 ≤ k ∧ k ≤ 64 ∧ f0 = 0 ∧ f1 = 0 ∧ f2 = 0 ∧ f3 = 0 ∧ k2 = k ∧ xs = flat (rowL 0 k.toNat)) with
    | false => rw [hc] at h; cases h
    | true =>
      rw [hc, cond_true] at h
      rw [pB_iff] at hc
      obtain ⟨rfl, h1, h2, h3, h4, rfl, rfl, rfl, rfl, rfl, rfl⟩ := hc
      cases h
      obtain ⟨x, rfl⟩ : ∃ x : Nat, n = x := ⟨n.toNat, by omega⟩
      obtain ⟨y, rfl⟩ : ∃ y : Nat, k2 = y := ⟨k2.toNat, by omega⟩
      rw [show ((x : Int)).toNat = x by omega, show ((y : Int)).toNat = y by omega]
      exact ch_loop1 rd y x (by omega) (by omega) 0 (Nat.zero_le _)
  · cases h
noncomputable def chL1 : FuncId → Loops := fun f => match f with
  | 125 => sums (fun n => match n with | 2 => some chSum1 | _ => none)
  | _ => noLoops
theorem chL1_ok : ∀ f, loopsOk Tryz.prog (chL1 f) := fun f => by
  unfold chL1
  split
  · intro n g hg
    simp only [sums] at hg
    split at hg
    · cases hg; exact chSum1_ok
    · cases hg
  · exact noLoops_ok
def row0 : List Int := 1 :: List.replicate 259 0
theorem row0_eq (K : Nat) : flat (rowL 0 K) = row0 := by
  have h : rowL 0 K = 1 :: List.replicate 64 0 := by
    apply List.ext_getElem?
    intro x
    by_cases hx : x < 65
    · rw [rowL_get hx]
      cases x with
      | zero => rw [if_pos (Nat.zero_le _)]; rfl
      | succ x =>
        have hr : (List.replicate 64 0 : List Nat)[x]? = some 0 := by
          rw [List.getElem?_replicate]; exact if_pos (by omega)
        rw [List.getElem?_cons_succ, hr]
        split
        · rw [ch, Nat.zero_mod]
        · rfl
    · rw [List.getElem?_eq_none (by rw [rowL_len]; omega), List.getElem?_eq_none (by rw [List.length_cons, List.length_replicate]; omega)]
  have e : flat (1 :: List.replicate 64 0) = row0 := by kernel_rfl
  rw [h, e]
def kI (n k : Int) : Int := foldI minI k [wr .i64 (n - k)]
theorem choose_eval (n k : Int) : evalFn Tryz.prog (orcP tabA chL1) noLoops 200 79 Tryz.f79 [.int .i64 n, .int .i64 k] [] (fun v _ => some v) =
    bif decide (n < 0) then some (.tuple [nW 0, .int .i64 2]) else bif decide (128 < n) then some (.tuple [nW 0, .int .i64 5]) else bif decide (k < 0) then some (.tuple [nW 0, .int .i64 0]) else bif decide (n < k) then some (.tuple [nW 0, .int .i64 0]) else
    cond (codesB [(chLp1, chLp1), (chA, chA), (chB, chB)]) (bif pB ((0 : Int) = 0 ∧ 0 ≤ n ∧ n ≤ 128 ∧ 0 ≤ kI n k ∧ kI n k ≤ 64 ∧ (0 : Int) = 0 ∧ (0 : Int) = 0 ∧ (0 : Int) = 0 ∧ (0 : Int) = 0 ∧ kI n k = kI n k ∧ cpy row0 = flat (rowL 0 (kI n k).toNat)) then
      some (.tuple [nW (ch n.toNat (kI n k).toNat : Nat), .int .i64 0]) else none) none := by kernel_rfl
def chZ (n k : Int) : Int := bif decide (n < 0) then 0 else bif decide (128 < n) then 0 else bif decide (k < 0) then 0 else bif decide (n < k) then 0 else ((ch n.toNat (kI n k).toNat : Nat) : Int)
def chE (n : Int) : Int := bif decide (n < 0) then 2 else bif decide (128 < n) then 5 else 0
theorem choose_p (n k : Int) : FnPure Tryz.prog 79 [.int .i64 n, .int .i64 k] (.tuple [nW (chZ n k), .int .i64 (chE n)]) := by
  refine fnPure_of_eval (N := 200) (orcP_ok tabA_ok chL1_ok) mixed Tryz.func79 (by kernel_rfl) noLoops_ok ?_ rfl rfl
  rw [choose_eval]
  unfold chZ chE
  by_cases h1 : n < 0
  · rw [decide_eq_true h1]; rfl
  by_cases h2 : 128 < n
  · rw [decide_eq_false h1, decide_eq_true h2]; rfl
  by_cases h3 : k < 0
  · rw [decide_eq_false h1, decide_eq_false h2, decide_eq_true h3]; rfl
  by_cases h4 : n < k
  · rw [decide_eq_false h1, decide_eq_false h2, decide_eq_false h3, decide_eq_true h4]; rfl
  have hk : kI n k = (if n - k < k then n - k else k) := by
    unfold kI
    rw [wr64 (by omega) (by omega)]
    simp only [foldI, minI]
    by_cases hlt : n - k < k
    · rw [decide_eq_true hlt, if_pos hlt]; rfl
    · rw [decide_eq_false hlt, if_neg hlt]; rfl
  have hr : 0 ≤ kI n k ∧ kI n k ≤ 64 := by rw [hk]; split <;> omega
  have hcd : codesB [(chLp1, chLp1), (chA, chA), (chB, chB)] = true := by
    rw [codesB_iff]; intro x hx; simp at hx; rcases hx with rfl | rfl | rfl <;> rfl
  have h0 : row0.length = 260 := by unfold row0; rw [List.length_cons, List.length_replicate]
  rw [decide_eq_false h1, decide_eq_false h2, decide_eq_false h3, decide_eq_false h4, hcd, cpy_eq h0, row0_eq, pB_iff.2 ⟨rfl, by omega, by omega, hr.1, hr.2, rfl, rfl, rfl, rfl, rfl, rfl⟩]
  rfl
end Go.Proofs.YtpalajfcffdhoaaGreatDoor.N2

/- Chapter 2: Pascal's triangle, plainly. -/
namespace Go.Proofs.YtpalajfcffdhoaaGreatDoor.N2
open Go Go.Eng
theorem ch_zero (n : Nat) : ch n 0 = 1 := by cases n <;> rfl
theorem ch_self : ∀ n : Nat, ch n n = 1
  | 0 => rfl
  | n + 1 => by rw [ch, ch_self n, ch_big (by omega)]
theorem ch_symm : ∀ {n k : Nat}, k ≤ n → ch n (n - k) = ch n k
  | 0, 0, _ => rfl
  | n + 1, 0, _ => by rw [Nat.sub_zero, ch_self, ch_zero]
  | n + 1, k + 1, h => by
    rw [Nat.add_sub_add_right]
    rcases Nat.lt_or_ge k n with hlt | hge
    · obtain ⟨j, hj⟩ : ∃ j, n - k = j + 1 := ⟨n - k - 1, by omega⟩
      have h1 := ch_symm (n := n) (k := k) (by omega)
      have h2 := ch_symm (n := n) (k := k + 1) (by omega)
      rw [hj] at h1
      rw [show n - (k + 1) = j by omega] at h2
      rw [hj, ch, ch, h1, h2]; omega
    · obtain rfl : k = n := by omega
      rw [Nat.sub_self, ch_zero, ch_self]
def cs (n : Nat) : Nat → Nat
  | 0 => 0
  | k + 1 => cs n k + ch n k
theorem chZ_eq {n k : Int} (h : 0 ≤ n ∧ n ≤ 128) : chZ n k = if 0 ≤ k ∧ k ≤ n then ((ch n.toNat k.toNat : Nat) : Int) else 0 := by
  unfold chZ
  rw [decide_eq_false (show ¬ n < 0 by omega), decide_eq_false (show ¬ 128 < n by omega)]
  simp only [cond_false]
  by_cases h3 : k < 0
  · rw [decide_eq_true h3, if_neg (by omega)]; rfl
  by_cases h4 : n < k
  · rw [decide_eq_false h3, decide_eq_true h4, if_neg (by omega)]; rfl
  rw [decide_eq_false h3, decide_eq_false h4, if_pos (by omega)]
  simp only [cond_false]
  have hk : kI n k = (if n - k < k then n - k else k) := by
    unfold kI
    rw [wr64 (by omega) (by omega)]
    simp only [foldI, minI]
    by_cases hlt : n - k < k
    · rw [decide_eq_true hlt, if_pos hlt]; rfl
    · rw [decide_eq_false hlt, if_neg hlt]; rfl
  rw [hk]
  split
  · rw [show (n - k).toNat = n.toNat - k.toNat by omega, ch_symm (by omega)]
  · rfl
end Go.Proofs.YtpalajfcffdhoaaGreatDoor.N2
