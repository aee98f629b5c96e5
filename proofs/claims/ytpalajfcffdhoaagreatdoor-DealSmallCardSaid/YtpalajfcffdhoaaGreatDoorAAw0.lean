/- Texts merged: AAw0, ACh1, ACh2. -/
import Derived.Test.YtpalajfcffdhoaaGreatDoorANat6
/- Chapter 2: the oracle with all that is known. -/
namespace Go.Proofs.YtpalajfcffdhoaaGreatDoor.N2
open Go Go.Eng
end Go.Proofs.YtpalajfcffdhoaaGreatDoor.N2

/- Chapter 2: Pascal's rows: the inner loop. -/
namespace Go.Proofs.YtpalajfcffdhoaaGreatDoor.N2
open Go Go.Eng
def o : Option TV := none
noncomputable def chA : Code := rangeA 12 Tryz.f79
noncomputable def chB : Code := rangeB 12 Tryz.f79
noncomputable def chLp1 : Code := loopOf 2 Tryz.f125
noncomputable def chLp2 : Code := loopOf 6 Tryz.f125
def chF : TS := mkS [(2, .ptr 0 0), (3, .ptr 1 0), (4, .ptr 2 0), (6, .ptr 3 0)] 0 39
def i1 : TR := .vs [.int .i64]
noncomputable def chBl (st : LSt) : List TB := [.own 3 i1, .own 3 i1, .own 34 z4, .own 34 n4, .own 3 i1, .defs, .loopB st 79 chF [30, 31] chA chB 5, .own 166 (.ints .u32)]
noncomputable def chT2 : Tm := ⟨mkS [(0, .yield 6), (1, .ptr 4 0), (3, .ptr 7 0), (5, .int .i64), (8, .int .i64)] 0 38, chBl .ready, []⟩
noncomputable def chX2 : Tm := ⟨mkS [(0, .yield 6), (1, .ptr 4 0), (3, .ptr 7 0), (8, .int .i64)] 0 38, chBl .ready, []⟩
def at4 (xs : List Int) (p : Nat) : Int := nval (xs.getD p 0) (xs.getD (p + 1) 0) (xs.getD (p + 1 + 1) 0) (xs.getD (p + 1 + 1 + 1) 0)
def in4 (xs : List Int) (p : Nat) : Bool := inN (xs.getD p 0) (xs.getD (p + 1) 0) (xs.getD (p + 1 + 1) 0) (xs.getD (p + 1 + 1 + 1) 0)
def put4 (xs : List Int) (p : Nat) (z : Int) : List Int := List.take p xs ++ [w0 z, w1 z, w2 z, w3 z] ++ List.drop (p + 4) xs
theorem ch_round2 (rd : Option Nat) (j i n k f0 f1 f2 f3 k2 : Int) (xs : List Int) : roundT Tryz.prog (orcP tabA plainL) noLoops 200 7 rd 125 chLp2 chT2 chX2 [.i j, .i i, .i n, .i k, .i f0, .i f1, .i f2, .i f3, .i k2, .l xs] =
    bif decide (0 < j) then bif decide (0 ≤ j ∧ j < 65) then bif decide (j.toNat * 4 + 4 ≤ xs.length) then bif decide (0 ≤ wr .i64 (j - 1) ∧ wr .i64 (j - 1) < 65) then bif decide ((wr .i64 (j - 1)).toNat * 4 + 4 ≤ xs.length) then
    bif in4 xs (j.toNat * 4) && in4 xs ((wr .i64 (j - 1)).toNat * 4) then bif decide (0 ≤ j ∧ j < 65) then bif decide (j.toNat * 4 + 4 ≤ xs.length) then
      some (.normal, [.i (wr .i64 (j - 1)), .i i, .i n, .i k, .i f0, .i f1, .i f2, .i f3, .i k2, .l (put4 xs (j.toNat * 4) (at4 xs (j.toNat * 4) + at4 xs ((wr .i64 (j - 1)).toNat * 4)))], [(chA, chA), (chB, chB)])
    else none else none else none else none else none else none else none
    else some (.exit 2, [.i i, .i n, .i k, .i f0, .i f1, .i f2, .i f3, .i k2, .l xs], [(chA, chA), (chB, chB)]) := by kernel_rfl
def flat : List Nat → List Int
  | [] => []
  | z :: r => w0 z :: w1 z :: w2 z :: w3 z :: flat r
theorem flat_len : ∀ L : List Nat, (flat L).length = 4 * L.length
  | [] => rfl
  | z :: r => by simp [flat, flat_len r]; omega
theorem flat_get : ∀ {L : List Nat} {j : Nat} {z : Nat}, L[j]? = some z → (flat L).getD (j * 4) 0 = w0 z ∧ (flat L).getD (j * 4 + 1) 0 = w1 z ∧ (flat L).getD (j * 4 + 1 + 1) 0 = w2 z ∧ (flat L).getD (j * 4 + 1 + 1 + 1) 0 = w3 z
  | [], j, z, h => by simp at h
  | y :: r, 0, z, h => by
    simp only [List.getElem?_cons_zero, Option.some.injEq] at h
    subst h
    exact ⟨rfl, rfl, rfl, rfl⟩
  | y :: r, j + 1, z, h => by
    simp only [List.getElem?_cons_succ] at h
    have e : (j + 1) * 4 = j * 4 + 1 + 1 + 1 + 1 := by omega
    rw [e]
    exact flat_get h
theorem flat_put : ∀ {L : List Nat} {j : Nat} {z : Nat}, j < L.length → put4 (flat L) (j * 4) z = flat (L.set j z)
  | [], j, z, h => by simp at h
  | y :: r, 0, z, _ => by simp [put4, flat]
  | y :: r, j + 1, z, h => by
    have ih := flat_put (L := r) (j := j) (z := z) (by simp at h; omega)
    unfold put4 at ih ⊢
    have e : (j + 1) * 4 = j * 4 + 1 + 1 + 1 + 1 := by omega
    have e2 : j * 4 + 1 + 1 + 1 + 1 + 4 = (j * 4 + 4) + 1 + 1 + 1 + 1 := by omega
    rw [e, e2]
    simp only [flat, List.set_cons_succ, List.take_succ_cons, List.drop_succ_cons, List.cons_append]
    rw [← ih]
def ch : Nat → Nat → Nat
  | _, 0 => 1
  | 0, _ + 1 => 0
  | n + 1, k + 1 => ch n k + ch n (k + 1)
theorem ch_big : ∀ {n k : Nat}, n < k → ch n k = 0
  | 0, k + 1, _ => rfl
  | n + 1, k + 1, h => by rw [ch, ch_big (by omega), ch_big (by omega)]
def rowL (i K : Nat) : List Nat := (List.range 65).map fun j => if j ≤ K then ch i j % 340282366920938463463374607431768211456 else 0
def midL (i K m j : Nat) : List Nat := (List.range 65).map fun x => if x ≤ K then (if j < x ∧ x ≤ m then ch (i + 1) x else ch i x) % 340282366920938463463374607431768211456 else 0
theorem midL_get {i K m j x : Nat} (hx : x < 65) : (midL i K m j)[x]? = some (if x ≤ K then (if j < x ∧ x ≤ m then ch (i + 1) x else ch i x) % 340282366920938463463374607431768211456 else 0) := by
  unfold midL
  rw [List.getElem?_map, List.getElem?_range hx]; rfl
theorem midL_len (i K m j : Nat) : (midL i K m j).length = 65 := by simp [midL]
theorem mid_start (i K m : Nat) : midL i K m m = rowL i K := by
  unfold midL rowL
  congr 1
  funext x
  rw [if_neg (show ¬ (m < x ∧ x ≤ m) by omega)]
theorem mid_end (i K : Nat) : midL i K (min K (i + 1)) 0 = rowL (i + 1) K := by
  unfold midL rowL
  congr 1
  funext x
  by_cases h : x ≤ K
  · rw [if_pos h, if_pos h]
    by_cases h2 : 0 < x ∧ x ≤ min K (i + 1)
    · rw [if_pos h2]
    · rw [if_neg h2]
      cases x with
      | zero => rw [ch, ch]
      | succ x => rw [ch_big (by omega), ch_big (by omega)]
  · rw [if_neg h, if_neg h]
theorem mid_step {i K m j : Nat} (hj : j + 1 ≤ m) (hm : m ≤ K) : (midL i K m (j + 1)).set (j + 1) ((ch i (j + 1) % 340282366920938463463374607431768211456 + ch i j % 340282366920938463463374607431768211456) % 340282366920938463463374607431768211456) = midL i K m j := by
  apply List.ext_getElem?
  intro x
  by_cases hx : x < 65
  · by_cases e : j + 1 = x
    · subst e
      rw [List.getElem?_set_self (by rw [midL_len]; exact hx), midL_get hx, if_pos (by omega), if_pos (by omega), ← Nat.add_mod, ch, Nat.add_comm]
    · rw [List.getElem?_set_ne e, midL_get hx, midL_get hx]
      congr 2
      by_cases h1 : j + 1 < x ∧ x ≤ m
      · rw [if_pos h1, if_pos (by omega)]
      · rw [if_neg h1, if_neg (by omega)]
  · rw [List.getElem?_eq_none (by rw [List.length_set, midL_len]; omega), List.getElem?_eq_none (by rw [midL_len]; omega)]
theorem chCodes : codesOk [(chA, chA), (chB, chB)] := by intro x hx; simp at hx; rcases hx with rfl | rfl <;> rfl
theorem ch_loop2 (rd : Option Nat) (n k f0 f1 f2 f3 : Int) (i K m : Nat) (hm : m ≤ K) (hK : K ≤ 64) : ∀ j : Nat, j ≤ m →
    SimC Tryz.prog 7 rd (.loop chLp2) (chT2.at [.i (j : Int), .i (i : Int), .i n, .i k, .i f0, .i f1, .i f2, .i f3, .i (K : Int), .l (flat (midL i K m j))]) (.exit 2)
      (chX2.at [.i (i : Int), .i n, .i k, .i f0, .i f1, .i f2, .i f3, .i (K : Int), .l (flat (midL i K m 0))]) := by
  refine loop_of_rounds (C := orcP tabA plainL) (L := noLoops) (N := 200) (me := 125) (T := chT2) (T' := chX2) (orcP_ok tabA_ok plainL_ok) mixed noLoops_ok (by kernel_rfl) (by kernel_rfl) (X := Nat)
    (fun j => [.i (j : Int), .i (i : Int), .i n, .i k, .i f0, .i f1, .i f2, .i f3, .i (K : Int), .l (flat (midL i K m j))]) (fun j => j ≤ m) (fun j => j)
    (fun _ => (.exit 2, [.i (i : Int), .i n, .i k, .i f0, .i f1, .i f2, .i f3, .i (K : Int), .l (flat (midL i K m 0))])) ?_
  intro j hj
  have h := ch_round2 rd j i n k f0 f1 f2 f3 K (flat (midL i K m j))
  cases j with
  | zero =>
    rw [decide_eq_false (by omega)] at h
    exact ⟨_, _, _, h, chCodes, .inr ⟨by simp, rfl⟩⟩
  | succ j =>
    have hw : wr .i64 (((j + 1 : Nat) : Int) - 1) = (j : Int) := by rw [wr64 (by omega) (by omega)]; omega
    have hl : (flat (midL i K m (j + 1))).length = 260 := by rw [flat_len, midL_len]
    have g1 := midL_get (i := i) (K := K) (m := m) (j := j + 1) (x := j + 1) (by omega)
    have g0 := midL_get (i := i) (K := K) (m := m) (j := j + 1) (x := j) (by omega)
    rw [if_pos (by omega), if_neg (by omega)] at g1 g0
    obtain ⟨a0, a1, a2, a3⟩ := flat_get g1
    obtain ⟨b0, b1, b2, b3⟩ := flat_get g0
    have lt : ∀ z : Nat, 0 ≤ ((z % 340282366920938463463374607431768211456 : Nat) : Int) ∧ ((z % 340282366920938463463374607431768211456 : Nat) : Int) < 340282366920938463463374607431768211456 := fun z => by omega
    have v1 : at4 (flat (midL i K m (j + 1))) ((j + 1) * 4) = ((ch i (j + 1) % 340282366920938463463374607431768211456 : Nat) : Int) := by
      unfold at4; rw [a0, a1, a2, a3, nval_id (lt _)]
    have v0 : at4 (flat (midL i K m (j + 1))) (j * 4) = ((ch i j % 340282366920938463463374607431768211456 : Nat) : Int) := by
      unfold at4; rw [b0, b1, b2, b3, nval_id (lt _)]
    have i1 : in4 (flat (midL i K m (j + 1))) ((j + 1) * 4) = true := by unfold in4; rw [a0, a1, a2, a3, inN_w]
    have i0 : in4 (flat (midL i K m (j + 1))) (j * 4) = true := by unfold in4; rw [b0, b1, b2, b3, inN_w]
    rw [hw, hl, show (((j + 1 : Nat) : Int)).toNat = j + 1 by omega, show ((j : Int)).toNat = j by omega, v1, v0, i1, i0, decide_eq_true (show (0 : Int) < ((j + 1 : Nat) : Int) by omega), decide_eq_true (show 0 ≤ ((j + 1 : Nat) : Int) ∧ ((j + 1 : Nat) : Int) < 65 by omega),
      decide_eq_true (show (j + 1) * 4 + 4 ≤ 260 by omega), decide_eq_true (show 0 ≤ (j : Int) ∧ (j : Int) < 65 by omega), decide_eq_true (show j * 4 + 4 ≤ 260 by omega)] at h
    have hput : put4 (flat (midL i K m (j + 1))) ((j + 1) * 4) (((ch i (j + 1) % 340282366920938463463374607431768211456 : Nat) : Int) + ((ch i j % 340282366920938463463374607431768211456 : Nat) : Int)) = flat (midL i K m j) := by
      rw [← mid_step (i := i) (K := K) (m := m) (j := j) (by omega) hm, ← flat_put (by rw [midL_len]; omega)]
      obtain ⟨q0, q1, q2, q3⟩ := w_mod (((ch i (j + 1) % 340282366920938463463374607431768211456 : Nat) : Int) + ((ch i j % 340282366920938463463374607431768211456 : Nat) : Int))
      unfold put4
      rw [show (((ch i (j + 1) % 340282366920938463463374607431768211456 + ch i j % 340282366920938463463374607431768211456) % 340282366920938463463374607431768211456 : Nat) : Int) = (((ch i (j + 1) % 340282366920938463463374607431768211456 : Nat) : Int) + ((ch i j % 340282366920938463463374607431768211456 : Nat) : Int)) % 340282366920938463463374607431768211456 by omega, q0, q1, q2, q3]
    rw [hput] at h
    exact ⟨_, _, _, h, chCodes, .inl ⟨rfl, j, rfl, by omega, by omega, rfl⟩⟩
end Go.Proofs.YtpalajfcffdhoaaGreatDoor.N2

/- Chapter 2: Pascal's rows: the outer loop. -/
namespace Go.Proofs.YtpalajfcffdhoaaGreatDoor.N2
open Go Go.Eng
noncomputable def chTree2 : List PV → Fin
  | [.i j, .i i, .i n, .i k, .i f0, .i f1, .i f2, .i f3, .i k2, .l xs] => .br (pB (0 ≤ i ∧ i ≤ 128 ∧ 0 ≤ k2 ∧ k2 ≤ 64 ∧ j = ((min k2.toNat (i.toNat + 1) : Nat) : Int) ∧ xs = flat (rowL i.toNat k2.toNat)))
      (.leaf (.exit 2) (chX2.at [.i i, .i n, .i k, .i f0, .i f1, .i f2, .i f3, .i k2, .l (flat (rowL (i.toNat + 1) k2.toNat))])) .no
  | _ => .no
noncomputable def chSum2 : LoopSum := lsumF 7 chT2 chLp2 chTree2
theorem chSum2_ok : LoopOk Tryz.prog chSum2 := by
  refine lsumF_ok (by kernel_rfl) (fun rd ps e1 st1 h => ?_)
  unfold chTree2 at h
  split at h
  · rename_i j i n k f0 f1 f2 f3 k2 xs
    simp only [Fin.pick] at h
    cases hc : pB (0 ≤ i ∧ i ≤ 128 ∧ 0 ≤ k2 ∧ k2 ≤ 64 ∧ j = ((min k2.toNat (i.toNat + 1) : Nat) : Int) ∧ xs = flat (rowL i.toNat k2.toNat)) with
    | false => rw [hc] at h; cases h
    | true =>
      rw [hc, cond_true] at h
      rw [pB_iff] at hc
      obtain ⟨h1, h2, h3, h4, rfl, rfl⟩ := hc
      cases h
      obtain ⟨x, rfl⟩ : ∃ x : Nat, i = x := ⟨i.toNat, by omega⟩
      obtain ⟨y, rfl⟩ : ∃ y : Nat, k2 = y := ⟨k2.toNat, by omega⟩
      rw [show ((x : Int)).toNat = x by omega, show ((y : Int)).toNat = y by omega]
      have := ch_loop2 rd n k f0 f1 f2 f3 x y (min y (x + 1)) (Nat.min_le_left _ _) (by omega) (min y (x + 1)) (Nat.le_refl _)
      rw [mid_start, mid_end] at this
      exact this
  · cases h
noncomputable def chL2 : FuncId → Loops := fun f => match f with
  | 125 => sums (fun n => match n with | 6 => some chSum2 | _ => none)
  | _ => noLoops
theorem chL2_ok : ∀ f, loopsOk Tryz.prog (chL2 f) := fun f => by
  unfold chL2
  split
  · intro n g hg
    simp only [sums] at hg
    split at hg
    · cases hg; exact chSum2_ok
    · cases hg
  · exact noLoops_ok
noncomputable def chT1 : Tm := ⟨mkS [(0, .yield 6), (1, .ptr 4 0), (3, .ptr 7 0), (8, .int .i64)] 0 38, chBl .ready, []⟩
noncomputable def chX0 : Tm := ⟨mkS [] 0 38, chBl (.done (.exit 0)), []⟩
def gets (xs : List Int) : Nat → Nat → List Int
  | _, 0 => []
  | i, n + 1 => xs.getD i 0 :: gets xs (i + 1) n
theorem gets_eq {xs : List Int} : ∀ {n i : Nat}, i + n ≤ xs.length → gets xs i n = (xs.drop i).take n
  | 0, i, _ => by simp [gets]
  | n + 1, i, h => by
    rw [gets, gets_eq (by omega), List.drop_eq_getElem_cons (show i < xs.length by omega), List.take_succ_cons, List.getD_eq_getElem?_getD, List.getElem?_eq_getElem (by omega)]
    rfl
def zeros : List Int := List.replicate 260 0
def cpy (xs : List Int) : List Int := List.take 0 zeros ++ gets xs 0 260 ++ List.drop (0 + 260) zeros
theorem cpy_eq {xs : List Int} (h : xs.length = 260) : cpy xs = xs := by
  unfold cpy
  rw [gets_eq (by omega), List.take_zero, List.nil_append, List.drop_zero, List.take_of_length_le (by omega), List.drop_eq_nil_of_le (show zeros.length ≤ 0 + 260 from Nat.le_of_eq (List.length_replicate ..)), List.append_nil]
noncomputable def chSt (e : XE) (l : List PV) : RT := some (e, l, [(chA, chA), (chB, chB)])
theorem ch_round1 (rd : Option Nat) (i n k f0 f1 f2 f3 k2 : Int) (xs : List Int) : roundT Tryz.prog (orcP tabA plainL) (chL2 125) 200 7 rd 125 chLp1 chT1 chX0 [.i i, .i n, .i k, .i f0, .i f1, .i f2, .i f3, .i k2, .l xs] =
    bif decide (i < 129) then bif decide (0 + 260 ≤ xs.length) then bif decide (i = n) then bif decide (0 ≤ k ∧ k < 65) then bif decide (k.toNat * 4 + 4 ≤ 260) then
      chSt .ret [.i n, .i k, .i ((cpy xs).getD (k.toNat * 4) 0), .i ((cpy xs).getD (k.toNat * 4 + 1) 0), .i ((cpy xs).getD (k.toNat * 4 + 1 + 1) 0), .i ((cpy xs).getD (k.toNat * 4 + 1 + 1 + 1) 0), .i k2, .l xs]
    else none else none else
    cond (codesB [(chLp2, chLp2), (chA, chA), (chB, chB)]) (bif pB (0 ≤ i ∧ i ≤ 128 ∧ 0 ≤ k2 ∧ k2 ≤ 64 ∧ foldI minI k2 [wr .i64 (i + 1)] = ((min k2.toNat (i.toNat + 1) : Nat) : Int) ∧ xs = flat (rowL i.toNat k2.toNat)) then
      chSt .normal [.i (wr .i64 (i + 1)), .i n, .i k, .i f0, .i f1, .i f2, .i f3, .i k2, .l (flat (rowL (i.toNat + 1) k2.toNat))] else none) none
    else none else none := by kernel_rfl
end Go.Proofs.YtpalajfcffdhoaaGreatDoor.N2
