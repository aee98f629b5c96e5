/- Chapter 4, the reference: Mask: the same as card's own. -/
import Derived.Test.YtbocdcnkmcejjaaDoorRMask
namespace Go.Proofs.YtbocdcnkmcejjaaDoor
open Go Go.Eng
theorem or_add : ∀ (c m : Nat), m.testBit c = false → m ||| 2 ^ c = m + 2 ^ c
  | 0, m, h => by
    rw [Nat.testBit_zero, decide_eq_false_iff_not] at h
    have h1 : (m ||| 1) / 2 = m / 2 := by rw [Nat.or_div_two]; simp
    have h2 : (m ||| 1).testBit 0 = true := by rw [Nat.testBit_or, show (1 : Nat).testBit 0 = true from rfl, Bool.or_true]
    rw [Nat.testBit_zero, decide_eq_true_eq] at h2
    show m ||| 1 = m + 1
    generalize m ||| 1 = w at h1 h2 ⊢
    omega
  | c + 1, m, h => by
    have ih := or_add c (m / 2) (by rw [← h, Nat.testBit_succ])
    have e : (2 : Nat) ^ (c + 1) = 2 * 2 ^ c := by rw [Nat.pow_succ]; omega
    have h1 : (m ||| 2 ^ (c + 1)) / 2 = m / 2 + 2 ^ c := by rw [Nat.or_div_two, ← ih, e, Nat.mul_div_cancel_left _ (by omega)]
    have h2 : (m ||| 2 ^ (c + 1)).testBit 0 = m.testBit 0 := by rw [Nat.testBit_or, Nat.testBit_two_pow]; simp
    rw [Nat.testBit_zero, Nat.testBit_zero, Bool.eq_iff_iff, decide_eq_true_eq, decide_eq_true_eq] at h2
    generalize hq : (2 : Nat) ^ (c + 1) = q at *
    generalize hw : m ||| q = w at *
    generalize 2 ^ c = p at *
    omega
/-- The mask so far is that of the numbers so far. -/
def okM (xs : List Int) (i m : Nat) : Prop := m < 4503599627370496 ∧ ∀ t : Nat, t < 52 → m.testBit t = (xs.take i).contains (t : Int)
theorem fnd_bit {xs : List Int} {i m : Nat} (h : okM xs i m) (hi : i < xs.length) (h0 : 0 ≤ xs[i]) (h1 : xs[i] ≤ 51) : fnd xs i 0 = m.testBit xs[i].toNat := by
  unfold fnd
  rw [List.drop_zero, List.getD_eq_getElem?_getD, List.getElem?_eq_getElem hi, Option.getD_some, h.2 xs[i].toNat (by omega), show ((xs[i].toNat : Nat) : Int) = xs[i] by omega]
theorem okM_step {xs : List Int} {i m : Nat} (h : okM xs i m) (hi : i < xs.length) (h0 : 0 ≤ xs[i]) (h1 : xs[i] ≤ 51) : okM xs (i + 1) (m ||| 2 ^ xs[i].toNat) := by
  refine ⟨Nat.or_lt_two_pow (n := 52) h.1 (Nat.pow_lt_pow_right (by decide) (by omega)), fun t ht => ?_⟩
  rw [Nat.testBit_or, Nat.testBit_two_pow, h.2 t ht, List.take_succ_eq_append_getElem hi, List.contains_eq_mem, List.contains_eq_mem, Bool.eq_iff_iff]
  simp only [Bool.or_eq_true, decide_eq_true_eq, List.mem_append, List.mem_singleton]
  constructor
  · rintro (h | h)
    · exact .inl h
    · exact .inr (by omega)
  · rintro (h | h)
    · exact .inl h
    · exact .inr (by omega)
def rkF1 (z e : Int) (xs : List Int) (r : Int × Nat) : XE × List PV := (if r.1 = 0 then .exit 0 else .ret, [.i (if r.1 = 0 then z else 0), .i (if r.1 = 0 then e else r.1), .i (r.2 : Int), .l xs])
theorem rk_loop1 (nn : Bool) (rd : Option Nat) (z e : Int) (xs : List Int) (hx : ∀ c ∈ xs, 0 ≤ c) (hl : xs.length ≤ 100000) : ∀ x : Nat × Nat, (x.1 ≤ xs.length ∧ okM xs x.1 x.2) →
    SimC Tryd.prog 1 rd (.loop rkLp1) ((rkT1 nn).at [.i z, .i e, .i (x.2 : Int), .i (x.1 : Int), .l xs]) (rkF1 z e xs (mkN (xs.drop x.1) x.2)).1 ((rkX1 nn).at (rkF1 z e xs (mkN (xs.drop x.1) x.2)).2) := by
  refine loop_of_rounds (C := orcNR R0) (L := rkL2 nn) (N := 100) (me := 41) (T := rkT1 nn) (T' := rkX1 nn) orcNR_ok mixed (rkL2_ok nn) (by cases nn <;> kernel_rfl) (by cases nn <;> kernel_rfl) (X := Nat × Nat)
    (fun x => [.i z, .i e, .i (x.2 : Int), .i (x.1 : Int), .l xs]) (fun x => x.1 ≤ xs.length ∧ okM xs x.1 x.2) (fun x => xs.length - x.1) (fun x => rkF1 z e xs (mkN (xs.drop x.1) x.2)) ?_
  rintro ⟨i, m⟩ ⟨hi, ho⟩
  dsimp only at hi ho ⊢
  have h := rk_round1 nn R0 rd z e (m : Int) (i : Int) xs
  rcases Nat.lt_or_ge i xs.length with hlt | hge
  · have hc := hx xs[i] (List.getElem_mem hlt)
    have cd : codesB [(rkLp2, rkLp2)] = true := by rw [codesB_iff]; intro x hx; simp at hx; rw [hx]
    rw [decide_eq_true (show (i : Int) < Int.ofNat xs.length by show (i : Int) < (xs.length : Int); omega), cond_true, atU_at hlt, atU_at hlt] at h
    rw [List.drop_eq_getElem_cons hlt]
    simp only [mkN]
    by_cases h51 : 51 < xs[i]
    · rw [decide_eq_true h51] at h
      rw [if_pos h51]
      exact ⟨_, _, _, h, codesE, .inr ⟨by simp, rfl⟩⟩
    · have hC : rkC2 (i : Int) 0 xs = true := by
        unfold rkC2
        rw [decide_eq_true_eq]
        exact ⟨rfl, by omega, by show (i : Int) < (xs.length : Int); omega, hl⟩
      rw [decide_eq_false h51, cond_false, cd, cond_true, hC, cond_true, show ((i : Int)).toNat = i from rfl, fnd_bit ho hlt hc (by omega)] at h
      rw [if_neg h51]
      cases hb : m.testBit xs[i].toNat with
      | true =>
        rw [hb] at h
        rw [if_pos rfl]
        exact ⟨_, _, _, h, codesE, .inr ⟨by simp, rfl⟩⟩
      | false =>
        have hbc : R0.bitC xs[i] = true := by
          show decide (0 ≤ xs[i] ∧ xs[i] ≤ 63) = true
          rw [decide_eq_true_eq]; omega
        have hor := or_add xs[i].toNat m hb
        have hlt52 := (okM_step ho hlt hc (by omega)).1
        have hw : wr .u64 ((m : Int) + R0.bit xs[i]) = ((m ||| 2 ^ xs[i].toNat : Nat) : Int) := by
          show ((m : Int) + ((2 ^ xs[i].toNat : Nat) : Int)) % 18446744073709551616 = _
          rw [hor] at hlt52 ⊢
          generalize 2 ^ xs[i].toNat = q at *
          omega
        rw [hb, hbc, hw, wrI64 (by omega) (by omega)] at h
        rw [if_neg (by simp)]
        exact ⟨_, _, _, h, codesE, .inl ⟨rfl, (i + 1, m ||| 2 ^ xs[i].toNat), rfl, ⟨by dsimp only; omega, okM_step ho hlt hc (by omega)⟩, by dsimp only; omega, rfl⟩⟩
  · rw [decide_eq_false (show ¬ (i : Int) < Int.ofNat xs.length from fun h => by have : (i : Int) < (xs.length : Int) := h; omega), cond_false] at h
    refine ⟨_, _, _, h, codesE, .inr ⟨by simp, ?_⟩⟩
    rw [List.drop_eq_nil_of_le (by omega)]; rfl
def rkP (z e m i : Int) (xs : List Int) : Prop := z = 0 ∧ e = 0 ∧ m = 0 ∧ i = 0 ∧ (∀ c ∈ xs, 0 ≤ c) ∧ xs.length ≤ 100000
noncomputable def rkTree1 (nn : Bool) : List PV → Fin
  | [.i z, .i e, .i m, .i i, .l xs] => .br (pB (rkP z e m i xs)) (.br (mkZ (mkN xs 0).1) (.leaf (.exit 0) ((rkX1 nn).at [.i 0, .i 0, .i ((mkN xs 0).2 : Int), .l xs])) (.leaf .ret ((rkX1 nn).at [.i 0, .i (mkN xs 0).1, .i ((mkN xs 0).2 : Int), .l xs]))) .no
  | _ => .no
noncomputable def rkL1 (nn : Bool) : Loops := sums (fun n => match n with | 3 => some (lsumF 1 (rkT1 nn) rkLp1 (rkTree1 nn)) | _ => none)
theorem rkL1_ok (nn : Bool) : loopsOk Tryd.prog (rkL1 nn) := by
  intro n g hg
  simp only [rkL1, sums] at hg
  split at hg
  · cases hg
    refine lsumF_ok (by cases nn <;> kernel_rfl) (fun rd ps e1 st1 hq => ?_)
    unfold rkTree1 at hq
    split at hq
    · rename_i z e m i xs
      simp only [Fin.pick] at hq
      cases hc : pB (rkP z e m i xs) with
      | false => rw [hc] at hq; cases hq
      | true =>
        rw [hc, cond_true] at hq
        rw [pB_iff] at hc
        obtain ⟨rfl, rfl, rfl, rfl, h1, h2⟩ := hc
        have := rk_loop1 nn rd 0 0 xs h1 h2 (0, 0) ⟨Nat.zero_le _, by decide, fun t _ => by simp⟩
        dsimp only at this
        rw [show xs.drop 0 = xs from rfl] at this
        unfold rkF1 at this
        cases hz : mkZ (mkN xs 0).1 with
        | true =>
          rw [hz] at hq
          cases hq
          have hz : (mkN xs 0).1 = 0 := of_decide_eq_true hz
          simp only [if_pos hz] at this
          exact this
        | false =>
          rw [hz] at hq
          cases hq
          have hz : ¬ (mkN xs 0).1 = 0 := of_decide_eq_false hz
          simp only [if_neg hz] at this
          exact this
    · cases hq
  · cases hg
theorem rmask_eval (nn : Bool) (N : NR) (xs : List Int) : evalFn Tryd.prog (orcNR N) (rkL1 nn) 100 41 Tryd.f41 [.gs 0] [.rs nn 1 (.ints .u8 xs)] (fun v _ => some v) =
    cond (codesB [(rkLp1, rkLp1)]) (bif pB (rkP 0 0 0 0 xs) then bif mkZ (mkN xs 0).1 then some (.tuple [.int .u64 ((mkN xs 0).2 : Nat), .int .i64 0]) else some (.tuple [.int .u64 0, .int .i64 (mkN xs 0).1]) else none) none := by cases nn <;> kernel_rfl
theorem rs_ro {nn : Bool} {xs : List Int} : ∀ (b : Nat) blk, ([.rs nn 1 (.ints .u8 xs)] : List Blk)[b]? = some blk → blk.mine = false := by
  intro b blk hb
  match b, hb with
  | 0, hb => cases hb; rfl
  | _ + 1, hb => simp at hb
theorem rmask_fn (nn : Bool) {xs : List Int} (h1 : ∀ c ∈ xs, 0 ≤ c) (h2 : xs.length ≤ 100000) : FnOK Tryd.prog 41 [.gs 0] [.rs nn 1 (.ints .u8 xs)] (.tuple [.int .u64 (mkV xs), .int .i64 (mkN xs 0).1]) [.rs nn 1 (.ints .u8 xs)] := by
  have cd : codesB [(rkLp1, rkLp1)] = true := by rw [codesB_iff]; intro x hx; simp at hx; rw [hx]
  have key : evalFn Tryd.prog (orcNR R0) (rkL1 nn) 100 41 Tryd.f41 [.gs 0] [.rs nn 1 (.ints .u8 xs)] (fun v _ => some v) = some (.tuple [.int .u64 (mkV xs), .int .i64 (mkN xs 0).1]) := by
    rw [rmask_eval, cd, pB_iff.2 ⟨rfl, rfl, rfl, rfl, h1, h2⟩]
    unfold mkV
    cases hz : mkZ (mkN xs 0).1 with
    | true =>
      have : (mkN xs 0).1 = 0 := of_decide_eq_true hz
      rw [this]; rfl
    | false => rfl
  obtain ⟨v1, h3, hk, hok⟩ := evalFn_ok orcNR_ok mixed Tryd.func41 (rkL1_ok nn) key
  cases hk
  exact hok.plain rfl rs_ro
end Go.Proofs.YtbocdcnkmcejjaaDoor
