/- Chapter 2, the reference: Mul of a list of numbers. -/
import Derived.Test.YthpdeiolhahobaaDoorNMul
namespace Go.Proofs.YthpdeiolhahobaaDoor
open Go Go.Eng
noncomputable def rmLp : Code := loopOf 3 Tryd.f30
def rmT0 (nn : Bool) : Tm := ⟨mkS [(0, .gs 0), (2, .ptr 1 0), (4, .gs 2), (5, .int .i64)] 0 24, [.rs nn 4 u32s, .own 27 z4, .grow true 3 1 (.vs [.int .i64])], []⟩
def rmT (nn : Bool) : Tm := ⟨mkS [(0, .gs 0), (2, .ptr 1 0), (4, .gs 2), (5, .int .i64)] 0 24, [.rs nn 4 u32s, .own 27 z4, .grow true 3 1 i64s], []⟩
def rmX0 (nn : Bool) : Tm := ⟨mkS [(2, .ptr 1 0), (4, .gs 2)] 0 24, [.rs nn 4 u32s, .own 27 z4, .grow true 3 1 (.vs [.int .i64])], []⟩
def rmX (nn : Bool) : Tm := ⟨mkS [(2, .ptr 1 0), (4, .gs 2)] 0 24, [.rs nn 4 u32s, .own 27 z4, .grow true 3 1 i64s], []⟩
def dgAt (N : NE) (xs : List Int) (p : Nat) : List Int := N.dg (xs.getD p 0) (xs.getD (p + 1) 0) (xs.getD (p + 1 + 1) 0) (xs.getD (p + 1 + 1 + 1) 0)
def inAt (N : NE) (xs : List Int) (p : Nat) : Bool := N.inn (xs.getD p 0) (xs.getD (p + 1) 0) (xs.getD (p + 1 + 1) 0) (xs.getD (p + 1 + 1 + 1) 0)
def rmR (N : NE) (xs out : List Int) (i : Int) (lv : Option (XE × List PV × List (Code × Code))) : Option (XE × List PV × List (Code × Code)) :=
    bif decide (i < ((xs.length / 4 : Nat) : Int)) then bif decide (0 ≤ i ∧ i < ((xs.length / 4 : Nat) : Int)) then bif decide (i.toNat * 4 + 4 ≤ xs.length) then bif inAt N xs (i.toNat * 4) then bif N.n.ok out && N.n.ok (dgAt N xs (i.toNat * 4)) then
      some (.normal, [.i (wr .i64 (i + 1)), .l xs, .l (N.n.prod out (dgAt N xs (i.toNat * 4)))], []) else none else none else none else none else lv
theorem rm_round (nn : Bool) (N : NE) (Z E : Int → Int) (ok : List Int → Bool) (vl : List Int → Int) (rd : Option Nat) (xs out : List Int) (i : Int) : roundT Tryd.prog (orcQ (hTabZ N Z E ok vl)) noLoops 200 1 rd 30 rmLp (rmT nn) (rmX nn) [.i i, .l xs, .l out] =
    rmR N xs out i (some (.exit 0, [.l xs, .l out], [])) := by cases nn <;> kernel_rfl
theorem rm_first (nn : Bool) (N : NE) (Z E : Int → Int) (ok : List Int → Bool) (vl : List Int → Int) (rd : Option Nat) (xs : List Int) (i x : Int) : roundG Tryd.prog (orcQ (hTabZ N Z E ok vl)) noLoops 200 1 rd 30 rmLp (rmT0 nn) (rmT nn) (rmX0 nn) [.i i, .l xs, .i x] =
    rmR N xs [x] i (some (.exit 0, [.l xs, .i x], [])) := by cases nn <;> kernel_rfl
theorem rm_step {xs : List Int} {i P : Nat} {a b c d : Int} (q : AtQ xs i a b c d) (hl : xs.length ≤ 48) (hP : P < 10 ^ (39 * i + 1)) (lv : Option (XE × List PV × List (Code × Code))) :
    rmR E0 xs (D P) (i : Int) lv = some (.normal, [.i ((i + 1 : Nat) : Int), .l xs, .l (D (P * (nval a b c d).toNat))], []) ∧ P * (nval a b c d).toNat < 10 ^ (39 * (i + 1) + 1) := by
  have hle := q.le
  have hr := nval_range q.inn
  have hd : dgAt E0 xs (i * 4) = D (nval a b c d).toNat := by
    unfold dgAt
    rw [q.g0, q.g1, q.g2, q.g3]; rfl
  have hi : inAt E0 xs (i * 4) = true := by
    unfold inAt
    rw [q.g0, q.g1, q.g2, q.g3]
    exact q.inn
  have hlt : (nval a b c d).toNat < 10 ^ 39 := Nat.lt_trans (show (nval a b c d).toNat < 340282366920938463463374607431768211456 by omega) (by decide)
  have k1 : E0.n.ok (D P) = true := len_D hP (by omega)
  have k2 : E0.n.ok (D (nval a b c d).toNat) = true := len_D hlt (by decide)
  constructor
  · unfold rmR
    rw [show ((i : Int)).toNat = i from rfl, decide_eq_true (show (i : Int) < ((xs.length / 4 : Nat) : Int) by omega), decide_eq_true (show 0 ≤ (i : Int) ∧ (i : Int) < ((xs.length / 4 : Nat) : Int) by omega), decide_eq_true (show i * 4 + 4 ≤ xs.length by omega), hi, hd, k1, k2, wr64 (by omega) (by omega), show E0.n.prod = prodD from rfl, prodD_D]
    rfl
  · rw [show 39 * (i + 1) + 1 = 39 * i + 1 + 39 by omega, Nat.pow_add]
    exact Nat.mul_lt_mul_of_lt_of_lt hP hlt
theorem rm_loop (nn : Bool) (rd : Option Nat) (xs : List Int) (hl : xs.length ≤ 48) (h4 : xs.length % 4 = 0) : ∀ x : Nat × Nat, (x.1 * 4 ≤ xs.length ∧ okL (xs.drop (x.1 * 4)) = true ∧ x.2 < 10 ^ (39 * x.1 + 1)) →
    ∃ m, SimL Tryd.prog 1 rd rmLp m ((rmT nn).at [.i (x.1 : Int), .l xs, .l (D x.2)]) (.exit 0) ((rmX nn).at [.l xs, .l (D (x.2 * (prodL (xs.drop (x.1 * 4))).toNat))]) := by
  refine loop_of_rounds_n (C := orcQ (hTabZ E0 ptZ ptE okP val)) (L := noLoops) (N := 200) (me := 30) (T := rmT nn) (T' := rmX nn) (orcQ_ok hTabZ_ok) mixed noLoops_ok (by cases nn <;> kernel_rfl) (by cases nn <;> kernel_rfl) (X := Nat × Nat)
    (fun x => [.i (x.1 : Int), .l xs, .l (D x.2)]) (fun x => x.1 * 4 ≤ xs.length ∧ okL (xs.drop (x.1 * 4)) = true ∧ x.2 < 10 ^ (39 * x.1 + 1)) (fun x => xs.length - x.1) (fun x => (.exit 0, [.l xs, .l (D (x.2 * (prodL (xs.drop (x.1 * 4))).toNat))])) ?_
  rintro ⟨i, P⟩ ⟨hi, ho, hP⟩
  dsimp only at hi ho hP ⊢
  have h := rm_round nn E0 ptZ ptE okP val rd xs (D P) (i : Int)
  by_cases hlt : i * 4 < xs.length
  · obtain ⟨a, b, c, d, q⟩ := okL_at ho hlt
    have hr := nval_range q.inn
    obtain ⟨s1, s2⟩ := rm_step q hl hP (some (.exit 0, [.l xs, .l (D P)], []))
    rw [s1] at h
    have hle := q.le
    refine ⟨_, _, _, h, codes0, .inl ⟨rfl, (i + 1, P * (nval a b c d).toNat), rfl, ⟨by dsimp only; omega, q.ok, s2⟩, by dsimp only; omega, ?_⟩⟩
    dsimp only
    rw [q.dr]
    simp only [prodL]
    rw [Int.toNat_mul hr.1 (prodL_nonneg q.ok), Nat.mul_assoc]
  · unfold rmR at h
    rw [decide_eq_false (show ¬ (i : Int) < ((xs.length / 4 : Nat) : Int) by omega), cond_false] at h
    refine ⟨_, _, _, h, codes0, .inr ⟨by simp, ?_⟩⟩
    rw [List.drop_eq_nil_of_le (by omega)]
    simp [prodL]
def rmC (xs : List Int) (i x : Int) : Bool := decide (i = 0 ∧ x = 1 ∧ xs.length ≤ 48) && okL xs
noncomputable def rmTree (nn : Bool) : List PV → Fin
  | [.i i, .l xs, .i x] => .br (rmC xs i x) (.br (decide (xs.length = 0)) (.leaf (.exit 0) ((rmX0 nn).at [.l xs, .i 1])) (.leaf (.exit 0) ((rmX nn).at [.l xs, .l (DD (prodL xs))]))) .no
  | _ => .no
noncomputable def rmL (nn : Bool) : Loops := sums (fun n => match n with | 3 => some (lsumF 1 (rmT0 nn) rmLp (rmTree nn)) | _ => none)
theorem rmL_ok (nn : Bool) : loopsOk Tryd.prog (rmL nn) := by
  intro n g hg
  simp only [rmL, sums] at hg
  split at hg
  · cases hg
    refine lsumF_ok (by cases nn <;> kernel_rfl) (fun rd ps e1 st1 hq => ?_)
    unfold rmTree at hq
    split at hq
    · rename_i i xs x
      simp only [Fin.pick] at hq
      cases hc : rmC xs i x with
      | false => rw [hc] at hq; cases hq
      | true =>
        rw [hc, cond_true] at hq
        simp only [rmC, Bool.and_eq_true, decide_eq_true_eq] at hc
        obtain ⟨⟨rfl, rfl, h1⟩, h2⟩ := hc
        have hf := rm_first nn E0 ptZ ptE okP val rd xs 0 1
        by_cases h0 : xs.length = 0
        · rw [decide_eq_true h0, cond_true] at hq
          cases hq
          unfold rmR at hf
          rw [decide_eq_false (show ¬ (0 : Int) < ((xs.length / 4 : Nat) : Int) by omega), cond_false] at hf
          exact loop_leave (T2 := rmT nn) (T' := rmX0 nn) (orcQ_ok hTabZ_ok) mixed noLoops_ok (by cases nn <;> kernel_rfl) (by cases nn <;> kernel_rfl) hf codes0 (by simp)
        · rw [decide_eq_false h0, cond_false] at hq
          cases hq
          obtain ⟨a, b, c, d, q⟩ := okL_at (i := 0) (by rw [show xs.drop (0 * 4) = xs from rfl]; exact h2) (by omega)
          have hr := nval_range q.inn
          obtain ⟨s1, s2⟩ := rm_step (P := 1) q h1 (by simp) (some (.exit 0, [.l xs, .i 1], []))
          have e1 : ([1] : List Int) = D 1 := rfl
          rw [e1, show (0 : Int) = ((0 : Nat) : Int) from rfl, s1] at hf
          have hle := q.le
          obtain ⟨m, hm⟩ := rm_loop nn rd xs h1 (okL_len h2) (0 + 1, 1 * (nval a b c d).toNat) ⟨hle, q.ok, s2⟩
          dsimp only at hm
          have hp : DD (prodL xs) = D (1 * (nval a b c d).toNat * (prodL (xs.drop ((0 + 1) * 4))).toNat) := by
            have hd := q.dr
            rw [show xs.drop (0 * 4) = xs from rfl] at hd
            conv => lhs; rw [hd]
            simp only [prodL]
            have ht := Int.toNat_mul hr.1 (prodL_nonneg q.ok)
            rw [show (0 + 1) * 4 = 4 from rfl] at ht
            unfold DD
            rw [ht, Nat.one_mul]
          rw [hp]
          exact loop_peel (T2 := rmT nn) (T' := rmX0 nn) (orcQ_ok hTabZ_ok) mixed noLoops_ok (by cases nn <;> kernel_rfl) (by cases nn <;> kernel_rfl) hf codes0 hm
    · cases hq
  · cases hg
theorem rmulL_eval (nn : Bool) (xs : List Int) : evalFn Tryd.prog (orcQ (hTabZ E0 ptZ ptE okP val)) (rmL nn) 200 30 Tryd.f30 [.gs 0] [.rs nn 4 (.ints .u32 xs)] (fun v _ => some v) =
    cond (codesB [(rmLp, rmLp)]) (bif rmC xs 0 1 then bif decide (xs.length = 0) then bif okP [1] then some (.tuple [nW (ptZ (val [1])), .int .i64 (ptE (val [1]))]) else none else
      bif okP (DD (prodL xs)) then some (.tuple [nW (ptZ (val (DD (prodL xs)))), .int .i64 (ptE (val (DD (prodL xs))))]) else none else none) none := by cases nn <;> kernel_rfl
theorem prodL_lt : ∀ {xs : List Int}, okL xs = true → (prodL xs).toNat < 10 ^ (39 * (xs.length / 4) + 1)
  | a :: b :: c :: d :: r, h => by
    simp only [okL, Bool.and_eq_true] at h
    have hr := nval_range h.1
    have h2 := prodL_lt h.2
    simp only [prodL, List.length_cons]
    rw [Int.toNat_mul hr.1 (prodL_nonneg h.2), show 39 * ((r.length + 1 + 1 + 1 + 1) / 4) + 1 = 39 + (39 * (r.length / 4) + 1) by omega, Nat.pow_add]
    exact Nat.mul_lt_mul_of_lt_of_lt (Nat.lt_trans (show (nval a b c d).toNat < 340282366920938463463374607431768211456 by omega) (by decide)) h2
  | [], _ => by simp [prodL]
  | [_], h => by simp [okL] at h
  | [_, _], h => by simp [okL] at h
  | [_, _, _], h => by simp [okL] at h
theorem rmulL_fn (nn : Bool) {xs : List Int} (hl : xs.length ≤ 48) (h : okL xs = true) :
    FnOK Tryd.prog 30 [.gs 0] [.rs nn 4 (.ints .u32 xs)] (.tuple [nW (ptZ (prodL xs)), .int .i64 (ptE (prodL xs))]) [.rs nn 4 (.ints .u32 xs)] := by
  have c1 : codesB [(rmLp, rmLp)] = true := by rw [codesB_iff]; intro x hx; simp at hx; rw [hx]
  have hC : rmC xs 0 1 = true := by
    unfold rmC
    rw [h, decide_eq_true ⟨rfl, rfl, hl⟩]; rfl
  have key : evalFn Tryd.prog (orcQ (hTabZ E0 ptZ ptE okP val)) (rmL nn) 200 30 Tryd.f30 [.gs 0] [.rs nn 4 (.ints .u32 xs)] (fun v _ => some v) = some (.tuple [nW (ptZ (prodL xs)), .int .i64 (ptE (prodL xs))]) := by
    rw [rmulL_eval, c1, hC]
    by_cases h0 : xs.length = 0
    · obtain rfl := List.eq_nil_of_length_eq_zero h0
      rfl
    · have hlt := prodL_lt h
      have hlen : (D (prodL xs).toNat).length ≤ 39 * (xs.length / 4) + 1 := D_len_lt hlt
      have hv : val (DD (prodL xs)) = prodL xs := by
        have := prodL_nonneg h
        unfold DD
        rw [val_D]; omega
      have ho : okP (DD (prodL xs)) = true := by
        unfold okP DD
        rw [isD_D, decide_eq_true (by omega)]; rfl
      rw [decide_eq_false h0, ho, hv]; rfl
  obtain ⟨v1, h1, hk, hok⟩ := evalFn_ok (orcQ_ok hTabZ_ok) mixed Tryd.func30 (rmL_ok nn) key
  cases hk
  exact hok.plain rfl rs4_ro
end Go.Proofs.YthpdeiolhahobaaDoor
