/- Chapter 2: Mul of a list of numbers. -/
import Derived.Test.YthpdeiolhahobaaDoorNat8
import Derived.Test.YthpdeiolhahobaaDoorRChoose
namespace Go.Proofs.YthpdeiolhahobaaDoor
open Go Go.Eng
/-- The numbers of a row: four words each. -/
def okL : List Int → Bool
  | [] => true
  | a :: b :: c :: d :: r => inN a b c d && okL r
  | _ => false
def prodL : List Int → Int
  | a :: b :: c :: d :: r => nval a b c d * prodL r
  | _ => 1
def hasZ : List Int → Bool
  | a :: b :: c :: d :: r => isZ a b c d || hasZ r
  | _ => false
def u32s : TR := .ints .u32
noncomputable def nmLp1 : Code := loopOf 2 Tryd.f21
noncomputable def nmLp2 : Code := loopOf 9 Tryd.f21
def nmT1 (nn : Bool) : Tm := ⟨mkS [(0, .gs 0), (2, .ptr 1 0), (3, .lit .i64 0), (11, .gs 0), (12, .int .i64), (13, .int .i64)] 0 41, [.rs nn 4 u32s, .own 28 z4], []⟩
def nmX1 (nn : Bool) : Tm := ⟨mkS [(0, .gs 0), (2, .ptr 1 0), (3, .lit .i64 0)] 0 41, [.rs nn 4 u32s, .own 28 z4], []⟩
def nmT2 (nn : Bool) : Tm := ⟨mkS [(2, .ptr 1 0), (3, .lit .i64 0), (6, .ptr 2 0), (23, .gs 0), (24, .int .i64), (25, .int .i64)] 0 41, [.rs nn 4 u32s, .own 28 z4, .own 28 n4], []⟩
def nmX2 (nn : Bool) : Tm := ⟨mkS [(2, .ptr 1 0), (3, .int .i64), (6, .ptr 2 0)] 0 41, [.rs nn 4 u32s, .own 28 z4, .own 28 n4], []⟩
def zAt (xs : List Int) (p : Nat) : Bool := isZ (xs.getD p 0) (xs.getD (p + 1) 0) (xs.getD (p + 1 + 1) 0) (xs.getD (p + 1 + 1 + 1) 0)
theorem nm_round1 (nn : Bool) (rd : Option Nat) (xs : List Int) (n i : Int) : roundT Tryd.prog (orcP tabD plainL) noLoops 200 1 rd 21 nmLp1 (nmT1 nn) (nmX1 nn) [.i n, .i i, .l xs] =
    bif decide (i < n) then bif decide (0 ≤ i ∧ i < ((xs.length / 4 : Nat) : Int)) then bif decide (i.toNat * 4 + 4 ≤ xs.length) then bif zAt xs (i.toNat * 4) then some (.ret, [.l xs], []) else some (.normal, [.i n, .i (wr .i64 (i + 1)), .l xs], []) else none else none
    else some (.exit 0, [.l xs], []) := by cases nn <;> kernel_rfl
def nmP (a b c d : Int) (xs : List Int) (i : Int) : Int := nval a b c d * at4 xs (i.toNat * 4)
theorem nm_round2 (nn : Bool) (rd : Option Nat) (xs : List Int) (n i a b c d : Int) : roundT Tryd.prog (orcP tabD plainL) noLoops 200 1 rd 21 nmLp2 (nmT2 nn) (nmX2 nn) [.i n, .i i, .l xs, .i a, .i b, .i c, .i d] =
    bif decide (i < n) then bif decide (0 ≤ i ∧ i < ((xs.length / 4 : Nat) : Int)) then bif decide (i.toNat * 4 + 4 ≤ xs.length) then bif inN a b c d && in4 xs (i.toNat * 4) then
      bif !decide (nmP a b c d xs i < 340282366920938463463374607431768211456) then some (.ret, [.i 3, .l xs, .i a, .i b, .i c, .i d], []) else
        some (.normal, [.i n, .i (wr .i64 (i + 1)), .l xs, .i (w0 (nmP a b c d xs i)), .i (w1 (nmP a b c d xs i)), .i (w2 (nmP a b c d xs i)), .i (w3 (nmP a b c d xs i))], []) else none else none else none
    else some (.exit 2, [.i 0, .l xs, .i a, .i b, .i c, .i d], []) := by cases nn <;> kernel_rfl
theorem okL_len : ∀ {xs : List Int}, okL xs = true → xs.length % 4 = 0
  | [], _ => rfl
  | a :: b :: c :: d :: r, h => by
    simp only [okL, Bool.and_eq_true] at h
    have := okL_len h.2
    simp only [List.length_cons]; omega
  | [_], h => by simp [okL] at h
  | [_, _], h => by simp [okL] at h
  | [_, _, _], h => by simp [okL] at h
/-- The number at one place, and what stands behind it. -/
structure AtQ (xs : List Int) (i : Nat) (a b c d : Int) : Prop where
  dr : xs.drop (i * 4) = a :: b :: c :: d :: xs.drop ((i + 1) * 4)
  g0 : xs.getD (i * 4) 0 = a
  g1 : xs.getD (i * 4 + 1) 0 = b
  g2 : xs.getD (i * 4 + 1 + 1) 0 = c
  g3 : xs.getD (i * 4 + 1 + 1 + 1) 0 = d
  inn : inN a b c d = true
  ok : okL (xs.drop ((i + 1) * 4)) = true
  le : (i + 1) * 4 ≤ xs.length
theorem okL_at {xs : List Int} {i : Nat} (h : okL (xs.drop (i * 4)) = true) (hi : i * 4 < xs.length) : ∃ a b c d, AtQ xs i a b c d := by
  have hl : (xs.drop (i * 4)).length = xs.length - i * 4 := List.length_drop
  have hg : ∀ j, xs.getD (i * 4 + j) 0 = (xs.drop (i * 4)).getD j 0 := fun j => by
    rw [List.getD_eq_getElem?_getD, List.getD_eq_getElem?_getD, List.getElem?_drop]
  have hd : xs.drop ((i + 1) * 4) = (xs.drop (i * 4)).drop 4 := by rw [List.drop_drop, show i * 4 + 4 = (i + 1) * 4 by omega]
  match he : xs.drop (i * 4), h with
  | [], _ => rw [he] at hl; simp at hl; omega
  | [_], h => simp [okL] at h
  | [_, _], h => simp [okL] at h
  | [_, _, _], h => simp [okL] at h
  | a :: b :: c :: d :: r, h =>
    rw [he] at hd hl
    simp only [okL, Bool.and_eq_true] at h
    have hr : xs.drop ((i + 1) * 4) = r := hd
    simp only [List.length_cons] at hl
    refine ⟨a, b, c, d, ⟨by rw [hr]; exact he, ?_, ?_, ?_, ?_, h.1, by rw [hr]; exact h.2, by omega⟩⟩
    · rw [show i * 4 = i * 4 + 0 by omega, hg, he]; rfl
    · rw [hg, he]; rfl
    · rw [show i * 4 + 1 + 1 = i * 4 + 2 by omega, hg, he]; rfl
    · rw [show i * 4 + 1 + 1 + 1 = i * 4 + 3 by omega, hg, he]; rfl
theorem nm_loop1 (nn : Bool) (rd : Option Nat) (xs : List Int) (hl : xs.length ≤ 4000000) (h4 : xs.length % 4 = 0) : ∀ i : Nat, (i * 4 ≤ xs.length ∧ okL (xs.drop (i * 4)) = true) →
    SimC Tryd.prog 1 rd (.loop nmLp1) ((nmT1 nn).at [.i ((xs.length / 4 : Nat) : Int), .i (i : Int), .l xs]) (if hasZ (xs.drop (i * 4)) = true then .ret else .exit 0) ((nmX1 nn).at [.l xs]) := by
  refine loop_of_rounds (C := orcP tabD plainL) (L := noLoops) (N := 200) (me := 21) (T := nmT1 nn) (T' := nmX1 nn) (orcP_ok tabD_ok plainL_ok) mixed noLoops_ok (by cases nn <;> kernel_rfl) (by cases nn <;> kernel_rfl) (X := Nat)
    (fun i => [.i ((xs.length / 4 : Nat) : Int), .i (i : Int), .l xs]) (fun i => i * 4 ≤ xs.length ∧ okL (xs.drop (i * 4)) = true) (fun i => xs.length - i) (fun i => (if hasZ (xs.drop (i * 4)) = true then .ret else .exit 0, [.l xs])) ?_
  rintro i ⟨hi, ho⟩
  have h := nm_round1 nn rd xs ((xs.length / 4 : Nat) : Int) (i : Int)
  rw [show ((i : Int)).toNat = i from rfl] at h
  by_cases hlt : i * 4 < xs.length
  · obtain ⟨a, b, c, d, q⟩ := okL_at ho hlt
    have hle := q.le
    rw [decide_eq_true (show (i : Int) < ((xs.length / 4 : Nat) : Int) by omega), decide_eq_true (show 0 ≤ (i : Int) ∧ (i : Int) < ((xs.length / 4 : Nat) : Int) by omega), decide_eq_true (show i * 4 + 4 ≤ xs.length by omega), wr64 (by omega) (by omega)] at h
    have hz : zAt xs (i * 4) = isZ a b c d := by unfold zAt; rw [q.g0, q.g1, q.g2, q.g3]
    rw [hz] at h
    have hz2 : hasZ (xs.drop (i * 4)) = (isZ a b c d || hasZ (xs.drop ((i + 1) * 4))) := by rw [q.dr]; rfl
    rw [hz2]
    rcases Bool.eq_false_or_eq_true (isZ a b c d) with hzz | hzz
    · rw [hzz] at h ⊢
      refine ⟨_, _, _, h, codes0, .inr ⟨by simp, ?_⟩⟩
      rw [Bool.true_or, if_pos rfl]
    · rw [hzz] at h ⊢
      exact ⟨_, _, _, h, codes0, .inl ⟨rfl, i + 1, rfl, ⟨by omega, q.ok⟩, by omega, by rw [Bool.false_or]⟩⟩
  · rw [decide_eq_false (show ¬ (i : Int) < ((xs.length / 4 : Nat) : Int) by omega), cond_false] at h
    refine ⟨_, _, _, h, codes0, .inr ⟨by simp, ?_⟩⟩
    rw [List.drop_eq_nil_of_le (by omega)]; rfl
/-- How far the product goes. -/
def mulRun : List Int → Int → Bool × Int
  | a :: b :: c :: d :: r, p => bif decide (p * nval a b c d < 340282366920938463463374607431768211456) then mulRun r (p * nval a b c d) else (false, p)
  | _, p => (true, p)
def nmF (xs : List Int) (r : Bool × Int) : XE × List PV := (if r.1 = true then .exit 2 else .ret, [.i (if r.1 = true then 0 else 3), .l xs, .i (w0 r.2), .i (w1 r.2), .i (w2 r.2), .i (w3 r.2)])
theorem nm_loop2 (nn : Bool) (rd : Option Nat) (xs : List Int) (hl : xs.length ≤ 4000000) (h4 : xs.length % 4 = 0) : ∀ x : Nat × Int, (x.1 * 4 ≤ xs.length ∧ okL (xs.drop (x.1 * 4)) = true ∧ 0 ≤ x.2 ∧ x.2 < 340282366920938463463374607431768211456) →
    SimC Tryd.prog 1 rd (.loop nmLp2) ((nmT2 nn).at [.i ((xs.length / 4 : Nat) : Int), .i (x.1 : Int), .l xs, .i (w0 x.2), .i (w1 x.2), .i (w2 x.2), .i (w3 x.2)]) (nmF xs (mulRun (xs.drop (x.1 * 4)) x.2)).1 ((nmX2 nn).at (nmF xs (mulRun (xs.drop (x.1 * 4)) x.2)).2) := by
  refine loop_of_rounds (C := orcP tabD plainL) (L := noLoops) (N := 200) (me := 21) (T := nmT2 nn) (T' := nmX2 nn) (orcP_ok tabD_ok plainL_ok) mixed noLoops_ok (by cases nn <;> kernel_rfl) (by cases nn <;> kernel_rfl) (X := Nat × Int)
    (fun x => [.i ((xs.length / 4 : Nat) : Int), .i (x.1 : Int), .l xs, .i (w0 x.2), .i (w1 x.2), .i (w2 x.2), .i (w3 x.2)]) (fun x => x.1 * 4 ≤ xs.length ∧ okL (xs.drop (x.1 * 4)) = true ∧ 0 ≤ x.2 ∧ x.2 < 340282366920938463463374607431768211456) (fun x => xs.length - x.1)
    (fun x => nmF xs (mulRun (xs.drop (x.1 * 4)) x.2)) ?_
  rintro ⟨i, p⟩ ⟨hi, ho, hp⟩
  dsimp only at hi ho hp ⊢
  have h := nm_round2 nn rd xs ((xs.length / 4 : Nat) : Int) (i : Int) (w0 p) (w1 p) (w2 p) (w3 p)
  unfold nmP at h
  rw [show ((i : Int)).toNat = i from rfl, inN_w, nval_id hp] at h
  by_cases hlt : i * 4 < xs.length
  · obtain ⟨a, b, c, d, q⟩ := okL_at ho hlt
    have hle := q.le
    have hr := nval_range q.inn
    have hz : at4 xs (i * 4) = nval a b c d := by unfold at4; rw [q.g0, q.g1, q.g2, q.g3]
    have hy : in4 xs (i * 4) = true := by unfold in4; rw [q.g0, q.g1, q.g2, q.g3]; exact q.inn
    rw [decide_eq_true (show (i : Int) < ((xs.length / 4 : Nat) : Int) by omega), decide_eq_true (show 0 ≤ (i : Int) ∧ (i : Int) < ((xs.length / 4 : Nat) : Int) by omega), decide_eq_true (show i * 4 + 4 ≤ xs.length by omega), wr64 (by omega) (by omega), hz, hy] at h
    rw [q.dr]
    simp only [mulRun]
    by_cases hb : p * nval a b c d < 340282366920938463463374607431768211456
    · rw [decide_eq_true hb] at h ⊢
      exact ⟨_, _, _, h, codes0, .inl ⟨rfl, (i + 1, p * nval a b c d), rfl, ⟨by dsimp only; omega, q.ok, Int.mul_nonneg hp.1 hr.1, hb⟩, by dsimp only; omega, rfl⟩⟩
    · rw [decide_eq_false hb] at h ⊢
      exact ⟨_, _, _, h, codes0, .inr ⟨by simp, rfl⟩⟩
  · rw [decide_eq_false (show ¬ (i : Int) < ((xs.length / 4 : Nat) : Int) by omega), cond_false] at h
    refine ⟨_, _, _, h, codes0, .inr ⟨by simp, ?_⟩⟩
    rw [List.drop_eq_nil_of_le (by omega)]; rfl
def nmC (xs : List Int) (n i : Int) : Bool := decide (n = ((xs.length / 4 : Nat) : Int) ∧ i = 0 ∧ xs.length ≤ 4000000) && okL xs
noncomputable def nmTree1 (nn : Bool) : List PV → Fin
  | [.i n, .i i, .l xs] => .br (nmC xs n i) (.br (hasZ xs) (.leaf .ret ((nmX1 nn).at [.l xs])) (.leaf (.exit 0) ((nmX1 nn).at [.l xs]))) .no
  | _ => .no
noncomputable def nmTree2 (nn : Bool) : List PV → Fin
  | [.i n, .i i, .l xs, .i a, .i b, .i c, .i d] => .br (nmC xs n i && decide (a = 1 ∧ b = 0 ∧ c = 0 ∧ d = 0)) (.br (mulRun xs 1).1 (.leaf (.exit 2) ((nmX2 nn).at [.i 0, .l xs, .i (w0 (mulRun xs 1).2), .i (w1 (mulRun xs 1).2), .i (w2 (mulRun xs 1).2), .i (w3 (mulRun xs 1).2)]))
      (.leaf .ret ((nmX2 nn).at [.i 3, .l xs, .i (w0 (mulRun xs 1).2), .i (w1 (mulRun xs 1).2), .i (w2 (mulRun xs 1).2), .i (w3 (mulRun xs 1).2)]))) .no
  | _ => .no
noncomputable def nmL (nn : Bool) : Loops := sums (fun n => match n with | 2 => some (lsumF 1 (nmT1 nn) nmLp1 (nmTree1 nn)) | 9 => some (lsumF 1 (nmT2 nn) nmLp2 (nmTree2 nn)) | _ => none)
theorem nmL_ok (nn : Bool) : loopsOk Tryd.prog (nmL nn) := by
  intro n g hg
  simp only [nmL, sums] at hg
  split at hg
  · cases hg
    refine lsumF_ok (by cases nn <;> kernel_rfl) (fun rd ps e1 st1 hq => ?_)
    unfold nmTree1 at hq
    split at hq
    · rename_i n i xs
      simp only [Fin.pick] at hq
      cases hc : nmC xs n i with
      | false => rw [hc] at hq; cases hq
      | true =>
        rw [hc, cond_true] at hq
        simp only [nmC, Bool.and_eq_true, decide_eq_true_eq] at hc
        obtain ⟨⟨rfl, rfl, h1⟩, h2⟩ := hc
        have := nm_loop1 nn rd xs h1 (okL_len h2) 0 ⟨by omega, h2⟩
        rw [show xs.drop (0 * 4) = xs from rfl] at this
        cases hz : hasZ xs with
        | true => rw [hz] at hq this; cases hq; exact this
        | false => rw [hz] at hq this; cases hq; exact this
    · cases hq
  · cases hg
    refine lsumF_ok (by cases nn <;> kernel_rfl) (fun rd ps e1 st1 hq => ?_)
    unfold nmTree2 at hq
    split at hq
    · rename_i n i xs a b c d
      simp only [Fin.pick] at hq
      cases hc : (nmC xs n i && decide (a = 1 ∧ b = 0 ∧ c = 0 ∧ d = 0)) with
      | false => rw [hc] at hq; cases hq
      | true =>
        rw [hc, cond_true] at hq
        simp only [nmC, Bool.and_eq_true, decide_eq_true_eq] at hc
        obtain ⟨⟨⟨rfl, rfl, h1⟩, h2⟩, rfl, rfl, rfl, rfl⟩ := hc
        have := nm_loop2 nn rd xs h1 (okL_len h2) (0, 1) ⟨by dsimp only; omega, h2, by dsimp only; omega, by dsimp only; omega⟩
        dsimp only at this
        rw [show xs.drop (0 * 4) = xs from rfl] at this
        unfold nmF at this
        cases hz : (mulRun xs 1).1 with
        | true => rw [hz] at hq this; cases hq; exact this
        | false => rw [hz] at hq this; cases hq; exact this
    · cases hq
  · cases hg
theorem nmul_eval (nn : Bool) (xs : List Int) : evalFn Tryd.prog (orcP tabD plainL) (nmL nn) 200 21 Tryd.f21 [.gs 0] [.rs nn 4 (.ints .u32 xs)] (fun v _ => some v) =
    cond (codesB [(nmLp1, nmLp1)]) (bif nmC xs ((xs.length / 4 : Nat) : Int) 0 then bif hasZ xs then some (.tuple [nW 0, .int .i64 0]) else
      cond (codesB [(nmLp2, nmLp2)]) (bif nmC xs ((xs.length / 4 : Nat) : Int) 0 && decide ((1 : Int) = 1 ∧ (0 : Int) = 0 ∧ (0 : Int) = 0 ∧ (0 : Int) = 0) then bif (mulRun xs 1).1 then some (.tuple [nW (mulRun xs 1).2, .int .i64 0]) else some (.tuple [nW 0, .int .i64 3]) else none) none else none) none := by cases nn <;> kernel_rfl
theorem isZ_nval {a b c d : Int} (h : inN a b c d = true) : (isZ a b c d = true → nval a b c d = 0) ∧ (isZ a b c d = false → 1 ≤ nval a b c d) := by
  have hr := nval_range h
  rw [isZ_eq h, decide_eq_true_eq, decide_eq_false_iff_not]
  omega
theorem prodL_zero : ∀ {xs : List Int}, okL xs = true → hasZ xs = true → prodL xs = 0
  | a :: b :: c :: d :: r, h, hz => by
    simp only [okL, Bool.and_eq_true] at h
    simp only [hasZ, Bool.or_eq_true] at hz
    simp only [prodL]
    rcases hz with hz | hz
    · rw [(isZ_nval h.1).1 hz, Int.zero_mul]
    · rw [prodL_zero h.2 hz, Int.mul_zero]
  | [], _, hz => by simp [hasZ] at hz
  | [_], h, _ => by simp [okL] at h
  | [_, _], h, _ => by simp [okL] at h
  | [_, _, _], h, _ => by simp [okL] at h
theorem prodL_pos : ∀ {xs : List Int}, okL xs = true → hasZ xs = false → 1 ≤ prodL xs
  | a :: b :: c :: d :: r, h, hz => by
    simp only [okL, Bool.and_eq_true] at h
    simp only [hasZ, Bool.or_eq_false_iff] at hz
    simp only [prodL]
    have h1 := (isZ_nval h.1).2 hz.1
    have h2 := prodL_pos h.2 hz.2
    have := Int.mul_le_mul h1 h2 (by omega) (by omega)
    omega
  | [], _, _ => by simp [prodL]
  | [_], h, _ => by simp [okL] at h
  | [_, _], h, _ => by simp [okL] at h
  | [_, _, _], h, _ => by simp [okL] at h
theorem prodL_nonneg {xs : List Int} (h : okL xs = true) : 0 ≤ prodL xs := by
  cases hz : hasZ xs with
  | true => rw [prodL_zero h hz]; exact Int.le_refl _
  | false => have := prodL_pos h hz; omega
theorem mulRun_eq : ∀ {xs : List Int} {p : Int}, okL xs = true → hasZ xs = false → 1 ≤ p → (p * prodL xs < 340282366920938463463374607431768211456 → mulRun xs p = (true, p * prodL xs)) ∧ (340282366920938463463374607431768211456 ≤ p * prodL xs → p < 340282366920938463463374607431768211456 → (mulRun xs p).1 = false)
  | a :: b :: c :: d :: r, p, h, hz, hp => by
    simp only [okL, Bool.and_eq_true] at h
    simp only [hasZ, Bool.or_eq_false_iff] at hz
    simp only [prodL, mulRun]
    have h1 := (isZ_nval h.1).2 hz.1
    have h2 := prodL_pos h.2 hz.2
    have h3 : 1 ≤ p * nval a b c d := by
      have := Int.mul_le_mul hp h1 (by omega) (by omega)
      omega
    have h4 : p * nval a b c d ≤ p * nval a b c d * prodL r := by
      have := Int.mul_le_mul_of_nonneg_left h2 (show 0 ≤ p * nval a b c d by omega)
      rw [Int.mul_one] at this
      exact this
    obtain ⟨q1, q2⟩ := mulRun_eq (p := p * nval a b c d) h.2 hz.2 h3
    rw [← Int.mul_assoc]
    refine ⟨fun hlt => ?_, fun hge hpl => ?_⟩
    · rw [decide_eq_true (show p * nval a b c d < 340282366920938463463374607431768211456 by omega), cond_true, q1 hlt]
    · by_cases hb : p * nval a b c d < 340282366920938463463374607431768211456
      · rw [decide_eq_true hb, cond_true, q2 hge hb]
      · rw [decide_eq_false hb]; rfl
  | [], p, _, _, _ => by
    refine ⟨fun _ => by simp [prodL, mulRun], fun h1 h2 => ?_⟩
    simp only [prodL, Int.mul_one] at h1
    omega
  | [_], _, h, _, _ => by simp [okL] at h
  | [_, _], _, h, _, _ => by simp [okL] at h
  | [_, _, _], _, h, _, _ => by simp [okL] at h
theorem rs4_ro {nn : Bool} {l : List Int} : ∀ (b : Nat) blk, ([.rs nn 4 (.ints .u32 l)] : List Blk)[b]? = some blk → blk.mine = false := by
  intro b blk hb
  match b, hb with
  | 0, hb => cases hb; rfl
  | _ + 1, hb => simp at hb
theorem nmul_fn (nn : Bool) {xs : List Int} (hl : xs.length ≤ 4000000) (h : okL xs = true) :
    FnOK Tryd.prog 21 [.gs 0] [.rs nn 4 (.ints .u32 xs)] (.tuple [nW (ptZ (prodL xs)), .int .i64 (ptE (prodL xs))]) [.rs nn 4 (.ints .u32 xs)] := by
  have c1 : codesB [(nmLp1, nmLp1)] = true := by rw [codesB_iff]; intro x hx; simp at hx; rw [hx]
  have c2 : codesB [(nmLp2, nmLp2)] = true := by rw [codesB_iff]; intro x hx; simp at hx; rw [hx]
  have hC : nmC xs ((xs.length / 4 : Nat) : Int) 0 = true := by
    unfold nmC
    rw [h, decide_eq_true ⟨rfl, rfl, hl⟩]; rfl
  have key : evalFn Tryd.prog (orcP tabD plainL) (nmL nn) 200 21 Tryd.f21 [.gs 0] [.rs nn 4 (.ints .u32 xs)] (fun v _ => some v) = some (.tuple [nW (ptZ (prodL xs)), .int .i64 (ptE (prodL xs))]) := by
    rw [nmul_eval, c1, c2, hC, decide_eq_true (show (1 : Int) = 1 ∧ (0 : Int) = 0 ∧ (0 : Int) = 0 ∧ (0 : Int) = 0 from ⟨rfl, rfl, rfl, rfl⟩)]
    simp only [Bool.and_self, cond_true]
    unfold ptZ ptE
    cases hz : hasZ xs with
    | true => rw [prodL_zero h hz]; rfl
    | false =>
      obtain ⟨q1, q2⟩ := mulRun_eq (p := 1) h hz (by omega)
      rw [Int.one_mul] at q1 q2
      by_cases hb : prodL xs < 340282366920938463463374607431768211456
      · rw [q1 hb, decide_eq_true hb]; rfl
      · rw [q2 (by omega) (by omega), decide_eq_false hb]; rfl
  obtain ⟨v1, h1, hk, hok⟩ := evalFn_ok (orcP_ok tabD_ok plainL_ok) mixed Tryd.func21 (nmL_ok nn) key
  cases hk
  exact hok.plain rfl rs4_ro
end Go.Proofs.YthpdeiolhahobaaDoor
