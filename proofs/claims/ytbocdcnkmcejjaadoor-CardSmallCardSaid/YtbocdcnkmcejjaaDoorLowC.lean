/- Chapter 4: Low's contract. -/
import Derived.Test.YtbocdcnkmcejjaaDoorTz
namespace Go.Proofs.YtbocdcnkmcejjaaDoor
open Go Go.Eng
def lowN (r s : Nat) : Nat := if hN r s = 0 then 0 else Lib.ctz 64 (hN r s)
def smI (m s : Int) : Int := bitsI .and .u64 m (wr .u64 (8191 * 2 ^ shAmt .u64 (wr .i64 (wr .i64 s * 13))))
theorem low_eval (m s : Int) : evalFn Tryd.prog (orcT tabP plainL) noLoops 100 23 Tryd.f23 [.int .u64 m, .int .u8 s] gH keepG = bif decide (4503599627370495 < m) then some (.tuple [.int .u8 0, .bool false], bruijnL) else bif decide (3 < s) then some (.tuple [.int .u8 0, .bool false], bruijnL) else
    bif decide (wr .i64 (wr .i64 s * 13) < 0) then none else
    bif decide (smI m s = 0) then some (.tuple [.int .u8 0, .bool false], bruijnL) else
    bif eqIs bruijnL bruijnL && decide (0 ≤ smI m s ∧ smI m s ≤ 18446744073709551615) then
      some (.tuple [.int .u8 (wr .u8 (ctzI (smI m s))), .bool true], bruijnL)
    else none := by kernel_rfl
theorem ctz_spec {x : Nat} (h0 : x ≠ 0) (hx : x < 18446744073709551616) : Lib.ctz 64 x < 64 ∧ x.testBit (Lib.ctz 64 x) = true ∧ ∀ i, i < Lib.ctz 64 x → x.testBit i = false := by
  obtain ⟨m, hm, hk⟩ := Lib.ctzFrom_spec 64 x (by omega) hx
  have e : Lib.ctz 64 x = Lib.ctzFrom 64 x := by simp [Lib.ctz, h0]
  rw [e]
  generalize Lib.ctzFrom 64 x = t at *
  have b1 : ∀ i, x.testBit i = (decide (t ≤ i) && (2 * m + 1).testBit (i - t)) := fun i => by rw [hm, Nat.testBit_two_pow_mul]
  exact ⟨hk, by rw [b1 t]; simp, fun i hi => by rw [b1 i, decide_eq_false (by omega)]; rfl⟩
theorem low_spec {r s : Nat} (hr : r < 4503599627370496) (h0 : hN r s ≠ 0) : (hN r s).testBit (lowN r s) = true ∧ ∀ i, i < lowN r s → (hN r s).testBit i = false := by
  have hlt := h_lt (s := s) hr
  unfold lowN
  rw [if_neg h0]
  exact (ctz_spec h0 (by omega)).2
theorem low_lt {r s : Nat} (hr : r < 4503599627370496) : lowN r s < 52 := by
  by_cases h0 : hN r s = 0
  · unfold lowN; rw [if_pos h0]; omega
  · have hlt := h_lt (s := s) hr
    have := (low_spec hr h0).1
    by_cases h : lowN r s < 52
    · exact h
    · have hp : 4503599627370496 ≤ 2 ^ lowN r s := Nat.le_trans (show 4503599627370496 ≤ 2 ^ 52 by decide) (Nat.pow_le_pow_right (show 0 < 2 by decide) (show 52 ≤ lowN r s by omega))
      rw [Nat.testBit_lt_two_pow (Nat.lt_of_lt_of_le hlt hp)] at this
      cases this
theorem sm_nat {r s : Nat} (hr : r < 4503599627370496) (hs : s ≤ 3) : smI r s = ((hN r s : Nat) : Int) ∧ ¬ wr .i64 (wr .i64 (s : Int) * 13) < 0 := by
  unfold smI
  have w1 : wr .i64 (s : Int) = s := wr64 (by omega) (by omega)
  have w2 : wr .i64 ((s : Int) * 13) = ((13 * s : Nat) : Int) := by rw [wr64 (by omega) (by omega)]; omega
  have sh : shAmt .u64 ((13 * s : Nat) : Int) = 13 * s := by
    unfold shAmt
    show min (((13 * s : Nat) : Int)).toNat 64 = 13 * s
    omega
  have e1 : (8191 : Int) * 2 ^ (13 * s) = ((8191 * 2 ^ (13 * s) : Nat) : Int) := by rw [Int.natCast_mul, Int.natCast_pow]; rfl
  have hm := smask_lt hs
  rw [w1, w2, sh, e1, wrU hm, and_nat (by omega) hm]
  exact ⟨rfl, by omega⟩
theorem eqIs_refl : ∀ l : List Int, eqIs l l = true
  | [] => rfl
  | a :: l => by simp [eqIs, eqIs_refl l]
theorem low_fn {r s : Nat} (hr : r < 4503599627370496) (hs : s ≤ 3) : FnOK Tryd.prog 23 [.int .u64 (r : Int), .int .u8 (s : Int)] gH (.tuple [.int .u8 (lowN r s : Nat), .bool (!(hN r s == 0))]) gH := by
  have he := low_eval r s
  obtain ⟨e1, e2⟩ := sm_nat hr hs
  have hlt := h_lt (s := s) hr
  rw [e1, decide_eq_false (show ¬ (4503599627370495 : Int) < r by omega), decide_eq_false (show ¬ (3 : Int) < s by omega), decide_eq_false e2, eqIs_refl, decide_eq_true (show 0 ≤ ((hN r s : Nat) : Int) ∧ ((hN r s : Nat) : Int) ≤ 18446744073709551615 by omega)] at he
  have key : evalFn Tryd.prog (orcT tabP plainL) noLoops 100 23 Tryd.f23 [.int .u64 (r : Int), .int .u8 (s : Int)] gH keepG = some (.tuple [.int .u8 (lowN r s : Nat), .bool (!(hN r s == 0))], bruijnL) := by
    rw [he]
    by_cases h0 : hN r s = 0
    · rw [h0, decide_eq_true (show ((0 : Nat) : Int) = 0 from rfl)]
      unfold lowN
      rw [if_pos h0]
      rfl
    · have hl := low_lt (s := s) hr
      have hlow : lowN r s = Lib.ctz 64 (hN r s) := by unfold lowN; rw [if_neg h0]
      rw [decide_eq_false (show ¬ ((hN r s : Nat) : Int) = 0 by omega)]
      have hz : (hN r s == 0) = false := by simpa using h0
      have hc : ctzI ((hN r s : Nat) : Int) = ((lowN r s : Nat) : Int) := by rw [hlow]; unfold ctzI; simp
      rw [hc, wr8 (by omega) (by omega), hz]
      rfl
  obtain ⟨v1, h1, hk, hok⟩ := evalFn_ok (orcT_ok tabP_ok plainL_ok) mixed Tryd.func23 noLoops_ok key
  unfold keepG at hk
  split at hk
  · cases hk
    exact FnOK.cut (h := gH) hok rfl rfl
  · cases hk
def gLow : List V → List Blk → Option (Bool × V × List Blk)
  | [.int .u64 m, .int .u8 s], [.glob 0 (.ints .u8 l)] => some (eqIs l bruijnL && decide (0 ≤ m ∧ m ≤ 4503599627370495 ∧ 0 ≤ s ∧ s ≤ 3), .tuple [.int .u8 (lowN m.toNat s.toNat : Nat), .bool (!(hN m.toNat s.toNat == 0))], [])
  | _, _ => none
def hTabW : HTab := addH 23 gLow hTabL
def hDomW : FuncId → Bool := fun f => Nat.beq f 23 || hDomL f
def glW : FuncId → List Nat := fun f => bif Nat.beq f 23 then [0] else glA f
theorem hTabW_ok : HTabOk Tryd.prog hTabW := by
  refine addH_ok ?_ hTabL_ok
  intro args h c v nb hq hc
  unfold gLow at hq
  split at hq
  · rename_i m s l
    cases hq
    rw [Bool.and_eq_true, decide_eq_true_eq] at hc
    have := eqIs_ok hc.1
    subst this
    have := low_fn (r := m.toNat) (s := s.toNat) (by omega) (by omega)
    rw [show ((m.toNat : Nat) : Int) = m by omega, show ((s.toNat : Nat) : Int) = s by omega] at this
    exact ⟨.of Tryd.func23 (by kernel_rfl), this⟩
  · cases hq
noncomputable abbrev orcW (T : PTab) (LL : FuncId → Loops) : Oracle := inl Tryd.prog ftab T LL 100 never hDomW (hOrcG glW hTabW) 20
theorem orcW_ok {T : PTab} (hT : PTabOk Tryd.prog T) {LL : FuncId → Loops} (hL : ∀ f, loopsOk Tryd.prog (LL f)) : OracleOk Tryd.prog (orcW T LL) := inl_ok (hOrcG_ok hTabW_ok) ftab_ok hT hL mixed 20
end Go.Proofs.YtbocdcnkmcejjaaDoor
