/- Texts merged: ACh2, ACh3. -/
import Derived.Test.YtpalajfcffdhoaaDoorAAw0
/- Chapter 2: Pascal's rows: the outer loop. -/
namespace Go.Proofs.YtpalajfcffdhoaaDoor.N2
open Go Go.Eng
noncomputable def chTree2 : List PV → Fin
  | [.i j, .i i, .i n, .i k, .i f0, .i f1, .i f2, .i f3, .i k2, .l xs] => .br (pB (0 ≤ i ∧ i ≤ 128 ∧ 0 ≤ k2 ∧ k2 ≤ 64 ∧ j = ((min k2.toNat (i.toNat + 1) : Nat) : Int) ∧ xs = flat (rowL i.toNat k2.toNat)))
      (.leaf (.exit 2) (chX2.at [.i i, .i n, .i k, .i f0, .i f1, .i f2, .i f3, .i k2, .l (flat (rowL (i.toNat + 1) k2.toNat))])) .no
  | _ => .no
noncomputable def chSum2 : LoopSum := lsumF 7 chT2 chLp2 chTree2
theorem chSum2_ok : LoopOk Tryd.prog chSum2 := by
  refine lsumF_ok (by kernel_rfl) (fun rd ps e1 st1 h => ?_)
  unfold chTree2 at h
  split at h
  · rename_i j i n k f0 f1 f2 f3 k2 xs
    simp only [Fin.pick] at h
    cases hc : pB (0 ≤ i ∧ i ≤ 128 ∧ 0 ≤ k2 ∧ k2 ≤ 64 ∧ j = ((min k2.toNat (i.toNat + 1) : Nat) : Int) ∧ xs = flat (rowL i.toNat k2.toNat)) with
    | false => rw [hc] at h; cases h
    | true =>
      rw [hc, cond_true] at h
      rw [pB_iff] at hc
      obtain ⟨h1, h2, h3, h4, rfl, rfl⟩ := hc
      cases h
      obtain ⟨x, rfl⟩ : ∃ x : Nat, i = x := ⟨i.toNat, by omega⟩
      obtain ⟨y, rfl⟩ : ∃ y : Nat, k2 = y := ⟨k2.toNat, by omega⟩
      rw [show ((x : Int)).toNat = x by omega, show ((y : Int)).toNat = y by omega]
      have := ch_loop2 rd n k f0 f1 f2 f3 x y (min y (x + 1)) (Nat.min_le_left _ _) (by omega) (min y (x + 1)) (Nat.le_refl _)
      rw [mid_start, mid_end] at this
      exact this
  · cases h
noncomputable def chL2 : FuncId → Loops := fun f => match f with
  | 96 => sums (fun n => match n with | 6 => some chSum2 | _ => none)
  | _ => noLoops
theorem chL2_ok : ∀ f, loopsOk Tryd.prog (chL2 f) := fun f => by
  unfold chL2
  split
  · intro n g hg
    simp only [sums] at hg
    split at hg
    · cases hg; exact chSum2_ok
    · cases hg
  · exact noLoops_ok
noncomputable def chT1 : Tm := ⟨mkS [(0, .yield 6), (1, .ptr 4 0), (3, .ptr 7 0), (8, .int .i64)] 0 38, chBl .ready, []⟩
noncomputable def chX1 : Tm := ⟨[], chBl (.done (.exit 0)), []⟩
noncomputable def chX0 : Tm := ⟨mkS [] 0 38, chBl (.done (.exit 0)), []⟩
def gets (xs : List Int) : Nat → Nat → List Int
  | _, 0 => []
  | i, n + 1 => xs.getD i 0 :: gets xs (i + 1) n
theorem gets_eq {xs : List Int} : ∀ {n i : Nat}, i + n ≤ xs.length → gets xs i n = (xs.drop i).take n
  | 0, i, _ => by simp [gets]
  | n + 1, i, h => by
    rw [gets, gets_eq (by omega), List.drop_eq_getElem_cons (show i < xs.length by omega), List.take_succ_cons, List.getD_eq_getElem?_getD, List.getElem?_eq_getElem (by omega)]
    rfl
def zeros : List Int := List.replicate 260 0
def cpy (xs : List Int) : List Int := List.take 0 zeros ++ gets xs 0 260 ++ List.drop (0 + 260) zeros
theorem cpy_eq {xs : List Int} (h : xs.length = 260) : cpy xs = xs := by
  unfold cpy
  rw [gets_eq (by omega), List.take_zero, List.nil_append, List.drop_zero, List.take_of_length_le (by omega), List.drop_eq_nil_of_le (show zeros.length ≤ 0 + 260 from Nat.le_of_eq (List.length_replicate ..)), List.append_nil]
noncomputable def chSt (e : XE) (l : List PV) : RT := some (e, l, [(chA, chA), (chB, chB)])
theorem ch_round1 (rd : Option Nat) (i n k f0 f1 f2 f3 k2 : Int) (xs : List Int) : roundT Tryd.prog (orcP tabA plainL) (chL2 96) 200 7 rd 96 chLp1 chT1 chX0 [.i i, .i n, .i k, .i f0, .i f1, .i f2, .i f3, .i k2, .l xs] =
    bif decide (i < 129) then bif decide (0 + 260 ≤ xs.length) then bif decide (i = n) then bif decide (0 ≤ k ∧ k < 65) then bif decide (k.toNat * 4 + 4 ≤ 260) then
      chSt .ret [.i n, .i k, .i ((cpy xs).getD (k.toNat * 4) 0), .i ((cpy xs).getD (k.toNat * 4 + 1) 0), .i ((cpy xs).getD (k.toNat * 4 + 1 + 1) 0), .i ((cpy xs).getD (k.toNat * 4 + 1 + 1 + 1) 0), .i k2, .l xs]
    else none else none else
    cond (codesB [(chLp2, chLp2), (chA, chA), (chB, chB)]) (bif pB (0 ≤ i ∧ i ≤ 128 ∧ 0 ≤ k2 ∧ k2 ≤ 64 ∧ foldI minI k2 [wr .i64 (i + 1)] = ((min k2.toNat (i.toNat + 1) : Nat) : Int) ∧ xs = flat (rowL i.toNat k2.toNat)) then
      chSt .normal [.i (wr .i64 (i + 1)), .i n, .i k, .i f0, .i f1, .i f2, .i f3, .i k2, .l (flat (rowL (i.toNat + 1) k2.toNat))] else none) none
    else none else none := by kernel_rfl
end Go.Proofs.YtpalajfcffdhoaaDoor.N2

/- Chapter 2: Choose's contract. -/
namespace Go.Proofs.YtpalajfcffdhoaaDoor.N2
open Go Go.Eng
theorem rowL_get {i K x : Nat} (hx : x < 65) : (rowL i K)[x]? = some (if x ≤ K then ch i x % 340282366920938463463374607431768211456 else 0) := by
  unfold rowL
  rw [List.getElem?_map, List.getElem?_range hx]; rfl
theorem rowL_len (i K : Nat) : (rowL i K).length = 65 := by simp [rowL]
theorem ch_loop1 (rd : Option Nat) (K n : Nat) (hK : K ≤ 64) (hn : n ≤ 128) : ∀ i : Nat, i ≤ n →
    SimC Tryd.prog 7 rd (.loop chLp1) (chT1.at [.i (i : Int), .i (n : Int), .i (K : Int), .i 0, .i 0, .i 0, .i 0, .i (K : Int), .l (flat (rowL i K))]) .ret
      (chX0.at [.i (n : Int), .i (K : Int), .i (w0 (ch n K : Nat)), .i (w1 (ch n K : Nat)), .i (w2 (ch n K : Nat)), .i (w3 (ch n K : Nat)), .i (K : Int), .l (flat (rowL n K))]) := by
  refine loop_of_rounds (C := orcP tabA plainL) (L := chL2 96) (N := 200) (me := 96) (T := chT1) (T' := chX0) (orcP_ok tabA_ok plainL_ok) mixed (chL2_ok 96) (by kernel_rfl) (by kernel_rfl) (X := Nat)
    (fun i => [.i (i : Int), .i (n : Int), .i (K : Int), .i 0, .i 0, .i 0, .i 0, .i (K : Int), .l (flat (rowL i K))]) (fun i => i ≤ n) (fun i => n - i)
    (fun _ => (.ret, [.i (n : Int), .i (K : Int), .i (w0 (ch n K : Nat)), .i (w1 (ch n K : Nat)), .i (w2 (ch n K : Nat)), .i (w3 (ch n K : Nat)), .i (K : Int), .l (flat (rowL n K))])) ?_
  intro i hi
  have h := ch_round1 rd i n K 0 0 0 0 K (flat (rowL i K))
  have hl : (flat (rowL i K)).length = 260 := by rw [flat_len, rowL_len]
  rw [hl, decide_eq_true (show (i : Int) < 129 by omega), decide_eq_true (show 0 + 260 ≤ 260 by omega), cpy_eq hl] at h
  simp only [cond_true] at h
  by_cases e : i = n
  · subst e
    have g := rowL_get (i := i) (K := K) (x := K) (by omega)
    rw [if_pos (Nat.le_refl _)] at g
    obtain ⟨a0, a1, a2, a3⟩ := flat_get g
    obtain ⟨q0, q1, q2, q3⟩ := w_mod ((ch i K : Nat) : Int)
    rw [show ((ch i K % 340282366920938463463374607431768211456 : Nat) : Int) = ((ch i K : Nat) : Int) % 340282366920938463463374607431768211456 by omega, q0] at a0
    rw [show ((ch i K % 340282366920938463463374607431768211456 : Nat) : Int) = ((ch i K : Nat) : Int) % 340282366920938463463374607431768211456 by omega, q1] at a1
    rw [show ((ch i K % 340282366920938463463374607431768211456 : Nat) : Int) = ((ch i K : Nat) : Int) % 340282366920938463463374607431768211456 by omega, q2] at a2
    rw [show ((ch i K % 340282366920938463463374607431768211456 : Nat) : Int) = ((ch i K : Nat) : Int) % 340282366920938463463374607431768211456 by omega, q3] at a3
    rw [decide_eq_true rfl, decide_eq_true (show 0 ≤ (K : Int) ∧ (K : Int) < 65 by omega), show ((K : Int)).toNat = K by omega, decide_eq_true (show K * 4 + 4 ≤ 260 by omega), a0, a1, a2, a3] at h
    exact ⟨_, _, _, h, chCodes, .inr ⟨by simp, rfl⟩⟩
  · have hcd : codesB [(chLp2, chLp2), (chA, chA), (chB, chB)] = true := by
      rw [codesB_iff]; intro x hx; simp at hx; rcases hx with rfl | rfl | rfl <;> rfl
    have hf : foldI minI (K : Int) [wr .i64 ((i : Int) + 1)] = ((min K (i + 1) : Nat) : Int) := by
      rw [wr64 (by omega) (by omega)]
      simp only [foldI, minI]
      by_cases hlt : (i : Int) + 1 < K
      · rw [decide_eq_true hlt]; simp only [cond_true]; omega
      · rw [decide_eq_false hlt]; simp only [cond_false]; omega
    rw [decide_eq_false (show ¬ (i : Int) = n by omega), hcd, hf, show ((i : Int)).toNat = i by omega, show ((K : Int)).toNat = K by omega, pB_iff.2 ⟨by omega, by omega, by omega, by omega, rfl, rfl⟩, wr64 (by omega) (by omega)] at h
    exact ⟨_, _, _, h, chCodes, .inl ⟨rfl, i + 1, rfl, by omega, by omega, rfl⟩⟩
noncomputable def chTree1 : List PV → Fin
  | [.i i, .i n, .i k, .i f0, .i f1, .i f2, .i f3, .i k2, .l xs] => .br (pB (i = 0 ∧ 0 ≤ n ∧ n ≤ 128 ∧ 0 ≤ k ∧ k ≤ 64 ∧ f0 = 0 ∧ f1 = 0 ∧ f2 = 0 ∧ f3 = 0 ∧ k2 = k ∧ xs = flat (rowL 0 k.toNat)))
      (.leaf .ret (chX0.at [.i n, .i k, .i (w0 (ch n.toNat k.toNat : Nat)), .i (w1 (ch n.toNat k.toNat : Nat)), .i (w2 (ch n.toNat k.toNat : Nat)), .i (w3 (ch n.toNat k.toNat : Nat)), .i k, .l (flat (rowL n.toNat k.toNat))])) .no
  | _ => .no
noncomputable def chSum1 : LoopSum := lsumF 7 chT1 chLp1 chTree1
theorem chSum1_ok : LoopOk Tryd.prog chSum1 := by
  refine lsumF_ok (by kernel_rfl) (fun rd ps e1 st1 h => ?_)
  unfold chTree1 at h
  split at h
  · rename_i i n k f0 f1 f2 f3 k2 xs
    simp only [Fin.pick] at h
    cases hc : pB (i = 0 ∧ 0 ≤ n ∧ n ≤ 128 ∧ 0 ≤ k ∧ k ≤ 64 ∧ f0 = 0 ∧ f1 = 0 ∧ f2 = 0 ∧ f3 = 0 ∧ k2 = k ∧ xs = flat (rowL 0 k.toNat)) with
    | false => rw [hc] at h; cases h
    | true =>
      rw [hc, cond_true] at h
      rw [pB_iff] at hc
      obtain ⟨rfl, h1, h2, h3, h4, rfl, rfl, rfl, rfl, rfl, rfl⟩ := hc
      cases h
      obtain ⟨x, rfl⟩ : ∃ x : Nat, n = x := ⟨n.toNat, by omega⟩
      obtain ⟨y, rfl⟩ : ∃ y : Nat, k2 = y := ⟨k2.toNat, by omega⟩
      rw [show ((x : Int)).toNat = x by omega, show ((y : Int)).toNat = y by omega]
      exact ch_loop1 rd y x (by omega) (by omega) 0 (Nat.zero_le _)
  · cases h
noncomputable def chL1 : FuncId → Loops := fun f => match f with
  | 96 => sums (fun n => match n with | 2 => some chSum1 | _ => none)
  | _ => noLoops
theorem chL1_ok : ∀ f, loopsOk Tryd.prog (chL1 f) := fun f => by
  unfold chL1
  split
  · intro n g hg
    simp only [sums] at hg
    split at hg
    · cases hg; exact chSum1_ok
    · cases hg
  · exact noLoops_ok
def row0 : List Int := 1 :: List.replicate 259 0
theorem row0_eq (K : Nat) : flat (rowL 0 K) = row0 := by
  have h : rowL 0 K = 1 :: List.replicate 64 0 := by
    apply List.ext_getElem?
    intro x
    by_cases hx : x < 65
    · rw [rowL_get hx]
      cases x with
      | zero => rw [if_pos (Nat.zero_le _)]; rfl
      | succ x =>
        have hr : (List.replicate 64 0 : List Nat)[x]? = some 0 := by
          rw [List.getElem?_replicate]; exact if_pos (by omega)
        rw [List.getElem?_cons_succ, hr]
        split
        · rw [ch, Nat.zero_mod]
        · rfl
    · rw [List.getElem?_eq_none (by rw [rowL_len]; omega), List.getElem?_eq_none (by rw [List.length_cons, List.length_replicate]; omega)]
  have e : flat (1 :: List.replicate 64 0) = row0 := by kernel_rfl
  rw [h, e]
def kI (n k : Int) : Int := foldI minI k [wr .i64 (n - k)]
theorem choose_eval (n k : Int) : evalFn Tryd.prog (orcP tabA chL1) noLoops 200 62 Tryd.f62 [.int .i64 n, .int .i64 k] [] (fun v _ => some v) =
    bif decide (n < 0) then some (.tuple [nW 0, .int .i64 2]) else bif decide (128 < n) then some (.tuple [nW 0, .int .i64 5]) else bif decide (k < 0) then some (.tuple [nW 0, .int .i64 0]) else bif decide (n < k) then some (.tuple [nW 0, .int .i64 0]) else
    cond (codesB [(chLp1, chLp1), (chA, chA), (chB, chB)]) (bif pB ((0 : Int) = 0 ∧ 0 ≤ n ∧ n ≤ 128 ∧ 0 ≤ kI n k ∧ kI n k ≤ 64 ∧ (0 : Int) = 0 ∧ (0 : Int) = 0 ∧ (0 : Int) = 0 ∧ (0 : Int) = 0 ∧ kI n k = kI n k ∧ cpy row0 = flat (rowL 0 (kI n k).toNat)) then
      some (.tuple [nW (ch n.toNat (kI n k).toNat : Nat), .int .i64 0]) else none) none := by kernel_rfl
/-- What Choose answers. -/
def chZ (n k : Int) : Int := bif decide (n < 0) then 0 else bif decide (128 < n) then 0 else bif decide (k < 0) then 0 else bif decide (n < k) then 0 else ((ch n.toNat (kI n k).toNat : Nat) : Int)
def chE (n : Int) : Int := bif decide (n < 0) then 2 else bif decide (128 < n) then 5 else 0
theorem choose_p (n k : Int) : FnPure Tryd.prog 62 [.int .i64 n, .int .i64 k] (.tuple [nW (chZ n k), .int .i64 (chE n)]) := by
  refine fnPure_of_eval (N := 200) (orcP_ok tabA_ok chL1_ok) mixed Tryd.func62 (by kernel_rfl) noLoops_ok ?_ rfl rfl
  rw [choose_eval]
  unfold chZ chE
  by_cases h1 : n < 0
  · rw [decide_eq_true h1]; rfl
  by_cases h2 : 128 < n
  · rw [decide_eq_false h1, decide_eq_true h2]; rfl
  by_cases h3 : k < 0
  · rw [decide_eq_false h1, decide_eq_false h2, decide_eq_true h3]; rfl
  by_cases h4 : n < k
  · rw [decide_eq_false h1, decide_eq_false h2, decide_eq_false h3, decide_eq_true h4]; rfl
  have hk : kI n k = (if n - k < k then n - k else k) := by
    unfold kI
    rw [wr64 (by omega) (by omega)]
    simp only [foldI, minI]
    by_cases hlt : n - k < k
    · rw [decide_eq_true hlt, if_pos hlt]; rfl
    · rw [decide_eq_false hlt, if_neg hlt]; rfl
  have hr : 0 ≤ kI n k ∧ kI n k ≤ 64 := by rw [hk]; split <;> omega
  have hcd : codesB [(chLp1, chLp1), (chA, chA), (chB, chB)] = true := by
    rw [codesB_iff]; intro x hx; simp at hx; rcases hx with rfl | rfl | rfl <;> rfl
  have h0 : row0.length = 260 := by unfold row0; rw [List.length_cons, List.length_replicate]
  rw [decide_eq_false h1, decide_eq_false h2, decide_eq_false h3, decide_eq_false h4, hcd, cpy_eq h0, row0_eq, pB_iff.2 ⟨rfl, by omega, by omega, hr.1, hr.2, rfl, rfl, rfl, rfl, rfl, rfl⟩]
  rfl
def gChoose : List V → Option (Bool × V)
  | [.int .i64 n, .int .i64 k] => some (true, .tuple [nW (chZ n k), .int .i64 (chE n)])
  | _ => none
end Go.Proofs.YtpalajfcffdhoaaDoor.N2
