/- Texts merged: AAw0, ACh1. -/
import Derived.Test.YtpalajfcffdhoaaDoorANat8
/- Chapter 2: the oracle with all that is known. -/
namespace Go.Proofs.YtpalajfcffdhoaaDoor.N2
open Go Go.Eng
noncomputable abbrev orcM (T : PTab) (LL : FuncId → Loops) : Oracle := inl Tryd.prog ftab T LL 200 never hDomM (hOrc hTabM) 20
theorem orcM_ok {T : PTab} (hT : PTabOk Tryd.prog T) {LL : FuncId → Loops} (hL : ∀ f, loopsOk Tryd.prog (LL f)) : OracleOk Tryd.prog (orcM T LL) := inl_ok (hOrc_ok hTabM_ok) ftab_ok hT hL mixed 20
end Go.Proofs.YtpalajfcffdhoaaDoor.N2

/- Chapter 2: Pascal's rows: the inner loop. -/
namespace Go.Proofs.YtpalajfcffdhoaaDoor.N2
open Go Go.Eng
def o : Option TV := none
noncomputable def chA : Code := rangeA 12 Tryd.f62
noncomputable def chB : Code := rangeB 12 Tryd.f62
noncomputable def chLp1 : Code := loopOf 2 Tryd.f96
noncomputable def chLp2 : Code := loopOf 6 Tryd.f96
def chF : TS := mkS [(2, .ptr 0 0), (3, .ptr 1 0), (4, .ptr 2 0), (6, .ptr 3 0)] 0 39
def i1 : TR := .vs [.int .i64]
noncomputable def chBl (st : LSt) : List TB := [.own 3 i1, .own 3 i1, .own 49 z4, .own 49 n4, .own 3 i1, .defs, .loopB st 62 chF [30, 31] chA chB 5, .own 131 (.ints .u32)]
noncomputable def chT2 : Tm := ⟨mkS [(0, .yield 6), (1, .ptr 4 0), (3, .ptr 7 0), (5, .int .i64), (8, .int .i64)] 0 38, chBl .ready, []⟩
noncomputable def chX2 : Tm := ⟨mkS [(0, .yield 6), (1, .ptr 4 0), (3, .ptr 7 0), (8, .int .i64)] 0 38, chBl .ready, []⟩
def at4 (xs : List Int) (p : Nat) : Int := nval (xs.getD p 0) (xs.getD (p + 1) 0) (xs.getD (p + 1 + 1) 0) (xs.getD (p + 1 + 1 + 1) 0)
def in4 (xs : List Int) (p : Nat) : Bool := inN (xs.getD p 0) (xs.getD (p + 1) 0) (xs.getD (p + 1 + 1) 0) (xs.getD (p + 1 + 1 + 1) 0)
def put4 (xs : List Int) (p : Nat) (z : Int) : List Int := List.take p xs ++ [w0 z, w1 z, w2 z, w3 z] ++ List.drop (p + 4) xs
theorem ch_round2 (rd : Option Nat) (j i n k f0 f1 f2 f3 k2 : Int) (xs : List Int) : roundT Tryd.prog (orcP tabA plainL) noLoops 200 7 rd 96 chLp2 chT2 chX2 [.i j, .i i, .i n, .i k, .i f0, .i f1, .i f2, .i f3, .i k2, .l xs] =
    bif decide (0 < j) then bif decide (0 ≤ j ∧ j < 65) then bif decide (j.toNat * 4 + 4 ≤ xs.length) then bif decide (0 ≤ wr .i64 (j - 1) ∧ wr .i64 (j - 1) < 65) then bif decide ((wr .i64 (j - 1)).toNat * 4 + 4 ≤ xs.length) then
    bif in4 xs (j.toNat * 4) && in4 xs ((wr .i64 (j - 1)).toNat * 4) then bif decide (0 ≤ j ∧ j < 65) then bif decide (j.toNat * 4 + 4 ≤ xs.length) then
      some (.normal, [.i (wr .i64 (j - 1)), .i i, .i n, .i k, .i f0, .i f1, .i f2, .i f3, .i k2, .l (put4 xs (j.toNat * 4) (at4 xs (j.toNat * 4) + at4 xs ((wr .i64 (j - 1)).toNat * 4)))], [(chA, chA), (chB, chB)])
    else none else none else none else none else none else none else none
    else some (.exit 2, [.i i, .i n, .i k, .i f0, .i f1, .i f2, .i f3, .i k2, .l xs], [(chA, chA), (chB, chB)]) := by kernel_rfl
/-! ### numbers in a row -/
def flat : List Nat → List Int
  | [] => []
  | z :: r => w0 z :: w1 z :: w2 z :: w3 z :: flat r
theorem flat_len : ∀ L : List Nat, (flat L).length = 4 * L.length
  | [] => rfl
  | z :: r => by simp [flat, flat_len r]; omega
theorem flat_get : ∀ {L : List Nat} {j : Nat} {z : Nat}, L[j]? = some z → (flat L).getD (j * 4) 0 = w0 z ∧ (flat L).getD (j * 4 + 1) 0 = w1 z ∧ (flat L).getD (j * 4 + 1 + 1) 0 = w2 z ∧ (flat L).getD (j * 4 + 1 + 1 + 1) 0 = w3 z
  | [], j, z, h => by simp at h
  | y :: r, 0, z, h => by
    simp only [List.getElem?_cons_zero, Option.some.injEq] at h
    subst h
    exact ⟨rfl, rfl, rfl, rfl⟩
  | y :: r, j + 1, z, h => by
    simp only [List.getElem?_cons_succ] at h
    have e : (j + 1) * 4 = j * 4 + 1 + 1 + 1 + 1 := by omega
    rw [e]
    exact flat_get h
theorem flat_put : ∀ {L : List Nat} {j : Nat} {z : Nat}, j < L.length → put4 (flat L) (j * 4) z = flat (L.set j z)
  | [], j, z, h => by simp at h
  | y :: r, 0, z, _ => by simp [put4, flat]
  | y :: r, j + 1, z, h => by
    have ih := flat_put (L := r) (j := j) (z := z) (by simp at h; omega)
    unfold put4 at ih ⊢
    have e : (j + 1) * 4 = j * 4 + 1 + 1 + 1 + 1 := by omega
    have e2 : j * 4 + 1 + 1 + 1 + 1 + 4 = (j * 4 + 4) + 1 + 1 + 1 + 1 := by omega
    rw [e, e2]
    simp only [flat, List.set_cons_succ, List.take_succ_cons, List.drop_succ_cons, List.cons_append]
    rw [← ih]
/-! ### Pascal -/
def ch : Nat → Nat → Nat
  | _, 0 => 1
  | 0, _ + 1 => 0
  | n + 1, k + 1 => ch n k + ch n (k + 1)
theorem ch_big : ∀ {n k : Nat}, n < k → ch n k = 0
  | 0, k + 1, _ => rfl
  | n + 1, k + 1, h => by rw [ch, ch_big (by omega), ch_big (by omega)]
abbrev B128 : Nat := 340282366920938463463374607431768211456
def rowL (i K : Nat) : List Nat := (List.range 65).map fun j => if j ≤ K then ch i j % 340282366920938463463374607431768211456 else 0
/-- The row in which the numbers from behind j up to m are the next row's. -/
def midL (i K m j : Nat) : List Nat := (List.range 65).map fun x => if x ≤ K then (if j < x ∧ x ≤ m then ch (i + 1) x else ch i x) % 340282366920938463463374607431768211456 else 0
theorem midL_get {i K m j x : Nat} (hx : x < 65) : (midL i K m j)[x]? = some (if x ≤ K then (if j < x ∧ x ≤ m then ch (i + 1) x else ch i x) % 340282366920938463463374607431768211456 else 0) := by
  unfold midL
  rw [List.getElem?_map, List.getElem?_range hx]; rfl
theorem midL_len (i K m j : Nat) : (midL i K m j).length = 65 := by simp [midL]
theorem mid_start (i K m : Nat) : midL i K m m = rowL i K := by
  unfold midL rowL
  congr 1
  funext x
  rw [if_neg (show ¬ (m < x ∧ x ≤ m) by omega)]
theorem mid_end (i K : Nat) : midL i K (min K (i + 1)) 0 = rowL (i + 1) K := by
  unfold midL rowL
  congr 1
  funext x
  by_cases h : x ≤ K
  · rw [if_pos h, if_pos h]
    by_cases h2 : 0 < x ∧ x ≤ min K (i + 1)
    · rw [if_pos h2]
    · rw [if_neg h2]
      cases x with
      | zero => rw [ch, ch]
      | succ x => rw [ch_big (by omega), ch_big (by omega)]
  · rw [if_neg h, if_neg h]
theorem mid_step {i K m j : Nat} (hj : j + 1 ≤ m) (hm : m ≤ K) : (midL i K m (j + 1)).set (j + 1) ((ch i (j + 1) % 340282366920938463463374607431768211456 + ch i j % 340282366920938463463374607431768211456) % 340282366920938463463374607431768211456) = midL i K m j := by
  apply List.ext_getElem?
  intro x
  by_cases hx : x < 65
  · by_cases e : j + 1 = x
    · subst e
      rw [List.getElem?_set_self (by rw [midL_len]; exact hx), midL_get hx, if_pos (by omega), if_pos (by omega), ← Nat.add_mod, ch, Nat.add_comm]
    · rw [List.getElem?_set_ne e, midL_get hx, midL_get hx]
      congr 2
      by_cases h1 : j + 1 < x ∧ x ≤ m
      · rw [if_pos h1, if_pos (by omega)]
      · rw [if_neg h1, if_neg (by omega)]
  · rw [List.getElem?_eq_none (by rw [List.length_set, midL_len]; omega), List.getElem?_eq_none (by rw [midL_len]; omega)]
theorem chCodes : codesOk [(chA, chA), (chB, chB)] := by intro x hx; simp at hx; rcases hx with rfl | rfl <;> rfl
theorem ch_loop2 (rd : Option Nat) (n k f0 f1 f2 f3 : Int) (i K m : Nat) (hm : m ≤ K) (hK : K ≤ 64) : ∀ j : Nat, j ≤ m →
    SimC Tryd.prog 7 rd (.loop chLp2) (chT2.at [.i (j : Int), .i (i : Int), .i n, .i k, .i f0, .i f1, .i f2, .i f3, .i (K : Int), .l (flat (midL i K m j))]) (.exit 2)
      (chX2.at [.i (i : Int), .i n, .i k, .i f0, .i f1, .i f2, .i f3, .i (K : Int), .l (flat (midL i K m 0))]) := by
  refine loop_of_rounds (C := orcP tabA plainL) (L := noLoops) (N := 200) (me := 96) (T := chT2) (T' := chX2) (orcP_ok tabA_ok plainL_ok) mixed noLoops_ok (by kernel_rfl) (by kernel_rfl) (X := Nat)
    (fun j => [.i (j : Int), .i (i : Int), .i n, .i k, .i f0, .i f1, .i f2, .i f3, .i (K : Int), .l (flat (midL i K m j))]) (fun j => j ≤ m) (fun j => j)
    (fun _ => (.exit 2, [.i (i : Int), .i n, .i k, .i f0, .i f1, .i f2, .i f3, .i (K : Int), .l (flat (midL i K m 0))])) ?_
  intro j hj
  have h := ch_round2 rd j i n k f0 f1 f2 f3 K (flat (midL i K m j))
  cases j with
  | zero =>
    rw [decide_eq_false (by omega)] at h
    exact ⟨_, _, _, h, chCodes, .inr ⟨by simp, rfl⟩⟩
  | succ j =>
    have hw : wr .i64 (((j + 1 : Nat) : Int) - 1) = (j : Int) := by rw [wr64 (by omega) (by omega)]; omega
    have hl : (flat (midL i K m (j + 1))).length = 260 := by rw [flat_len, midL_len]
    have g1 := midL_get (i := i) (K := K) (m := m) (j := j + 1) (x := j + 1) (by omega)
    have g0 := midL_get (i := i) (K := K) (m := m) (j := j + 1) (x := j) (by omega)
    rw [if_pos (by omega), if_neg (by omega)] at g1 g0
    obtain ⟨a0, a1, a2, a3⟩ := flat_get g1
    obtain ⟨b0, b1, b2, b3⟩ := flat_get g0
    have lt : ∀ z : Nat, 0 ≤ ((z % 340282366920938463463374607431768211456 : Nat) : Int) ∧ ((z % 340282366920938463463374607431768211456 : Nat) : Int) < 340282366920938463463374607431768211456 := fun z => by omega
    have v1 : at4 (flat (midL i K m (j + 1))) ((j + 1) * 4) = ((ch i (j + 1) % 340282366920938463463374607431768211456 : Nat) : Int) := by
      unfold at4; rw [a0, a1, a2, a3, nval_id (lt _)]
    have v0 : at4 (flat (midL i K m (j + 1))) (j * 4) = ((ch i j % 340282366920938463463374607431768211456 : Nat) : Int) := by
      unfold at4; rw [b0, b1, b2, b3, nval_id (lt _)]
    have i1 : in4 (flat (midL i K m (j + 1))) ((j + 1) * 4) = true := by unfold in4; rw [a0, a1, a2, a3, inN_w]
    have i0 : in4 (flat (midL i K m (j + 1))) (j * 4) = true := by unfold in4; rw [b0, b1, b2, b3, inN_w]
    rw [hw, hl, show (((j + 1 : Nat) : Int)).toNat = j + 1 by omega, show ((j : Int)).toNat = j by omega, v1, v0, i1, i0, decide_eq_true (show (0 : Int) < ((j + 1 : Nat) : Int) by omega), decide_eq_true (show 0 ≤ ((j + 1 : Nat) : Int) ∧ ((j + 1 : Nat) : Int) < 65 by omega),
      decide_eq_true (show (j + 1) * 4 + 4 ≤ 260 by omega), decide_eq_true (show 0 ≤ (j : Int) ∧ (j : Int) < 65 by omega), decide_eq_true (show j * 4 + 4 ≤ 260 by omega)] at h
    have hput : put4 (flat (midL i K m (j + 1))) ((j + 1) * 4) (((ch i (j + 1) % 340282366920938463463374607431768211456 : Nat) : Int) + ((ch i j % 340282366920938463463374607431768211456 : Nat) : Int)) = flat (midL i K m j) := by
      rw [← mid_step (i := i) (K := K) (m := m) (j := j) (by omega) hm, ← flat_put (by rw [midL_len]; omega)]
      obtain ⟨q0, q1, q2, q3⟩ := w_mod (((ch i (j + 1) % 340282366920938463463374607431768211456 : Nat) : Int) + ((ch i j % 340282366920938463463374607431768211456 : Nat) : Int))
      unfold put4
      rw [show (((ch i (j + 1) % 340282366920938463463374607431768211456 + ch i j % 340282366920938463463374607431768211456) % 340282366920938463463374607431768211456 : Nat) : Int) = (((ch i (j + 1) % 340282366920938463463374607431768211456 : Nat) : Int) + ((ch i j % 340282366920938463463374607431768211456 : Nat) : Int)) % 340282366920938463463374607431768211456 by omega, q0, q1, q2, q3]
    rw [hput] at h
    exact ⟨_, _, _, h, chCodes, .inl ⟨rfl, j, rfl, by omega, by omega, rfl⟩⟩
end Go.Proofs.YtpalajfcffdhoaaDoor.N2
