/- The statement SeedWrong holds: whatever the state, the integer and the number of 128 bits, the law's call returns true and its arguments read as they did. No condition. -/
import Derived.Test.YtnbfnoomhlamnaaErr
namespace Go.Proofs.Ytnbfnoomhlamnaa.seedWrong
open Go Go.Eng Go.Proofs.Ytnbfnoomhlamnaa

theorem law_eval (s n m0 m1 m2 m3 : Int) : evalAt tabE errL 8 Try.f8 [.int .i64 s, .int .i64 n, .agg [.int .u32 m0, .int .u32 m1, .int .u32 m2, .int .u32 m3]] =
  bif rightB s then
    bif !rightB (wr .i64 (0 - s)) then bif !rightB (wr .i64 (0 - s)) then bif belowB (wr .i64 (0 - s)) 5 then bif natB (wr .i64 (0 - s)) 5 0 0 0 then bif !rightB (wr .i64 (0 - s)) then
      bif belowB 1 (foldI minI n [0]) then bif belowB 1 (foldI maxI n [2147483647]) then bif natB 1 m0 m1 m2 (bitsI .or .u32 m3 2147483648) then
        bif !rightB (wr .i64 (0 - s)) then some (.bool (rightB (ofI n))) else some (.bool false)
      else none else none else none else none else none else none else none else none
  else
    bif !rightB s then bif !rightB s then bif belowB s 5 then bif natB s 5 0 0 0 then bif !rightB s then
      bif belowB 1 (foldI minI n [0]) then bif belowB 1 (foldI maxI n [2147483647]) then bif natB 1 m0 m1 m2 (bitsI .or .u32 m3 2147483648) then
        bif !rightB s then some (.bool (rightB (ofI n))) else some (.bool false)
      else none else none else none else none else none else none else none else none := by kernel_rfl

theorem wr64 {x : Int} (h1 : -9223372036854775808 ≤ x) (h2 : x < 9223372036854775808) : wr .i64 x = x := by
  simp only [wr, sgn]
  cases h : decide (9223372036854775808 ≤ x % 18446744073709551616) with
  | true => simp only [decide_eq_true_eq] at h; simp only [cond_true]; omega
  | false => simp only [decide_eq_false_iff_not] at h; simp only [cond_false]; omega
theorem right_iff {s : Int} : rightB s = true ↔ 1 ≤ s ∧ s ≤ 2147483646 := by simp [rightB]
theorem of_right {n : Int} : rightB (ofI n) = true := by
  have h2 := Int.tmod_lt_of_pos n (show (0 : Int) < 2147483646 by omega)
  have h3 : -2147483646 < n.tmod 2147483646 := by
    rcases Int.le_total 0 n with h | h
    · have := Int.tmod_nonneg 2147483646 h; omega
    · have h4 := Int.tmod_lt_of_pos (-n) (show (0 : Int) < 2147483646 by omega)
      rw [Int.neg_tmod] at h4
      omega
  rw [right_iff]
  unfold ofI
  generalize n.tmod 2147483646 = t at *
  cases h : decide (t < 0) with
  | true =>
    simp only [decide_eq_true_eq] at h
    rw [cond_true, wr64 (x := t + 2147483646) (by omega) (by omega), wr64 (by omega) (by omega)]
    omega
  | false =>
    simp only [decide_eq_false_iff_not] at h
    rw [cond_false, wr64 (by omega) (by omega)]
    omega
theorem neg_wrong {s : Int} (h : rightB s = true) : rightB (wr .i64 (0 - s)) = false := by
  rw [right_iff] at h
  rw [wr64 (by omega) (by omega)]
  cases h0 : rightB (0 - s) with
  | false => rfl
  | true => rw [right_iff] at h0; omega
theorem min_low (n : Int) : minI n 0 < 1 := by
  unfold minI
  cases h : decide (0 < n) with
  | true => simp
  | false => simp only [decide_eq_false_iff_not] at h; simp only [cond_false]; omega
theorem max_high (n : Int) : 2147483646 < maxI n 2147483647 := by
  unfold maxI
  cases h : decide (2147483647 > n) with
  | true => simp
  | false => simp only [decide_eq_false_iff_not] at h; simp only [cond_false]; omega
theorem bounds (n : Int) : belowB 1 (foldI minI n [0]) = true ∧ belowB 1 (foldI maxI n [2147483647]) = true := by
  have h1 : foldI minI n [0] < 1 := min_low n
  have h2 : 2147483646 < foldI maxI n [2147483647] := max_high n
  unfold belowB
  rw [decide_eq_true h1, decide_eq_true h2]
  simp
theorem or_big (m : Int) : 2147483648 ≤ bitsI .or .u32 m 2147483648 := by
  show (2147483648 : Int) ≤ ((BitVec.ofInt 32 m ||| BitVec.ofInt 32 2147483648).toNat : Int) % 4294967296
  have h1 : (BitVec.ofInt 32 m ||| BitVec.ofInt 32 2147483648).toNat = (BitVec.ofInt 32 m).toNat ||| 2147483648 := by
    rw [BitVec.toNat_or]; rfl
  have h2 : (2147483648 : Nat) ≤ (BitVec.ofInt 32 m).toNat ||| 2147483648 := Nat.right_le_or
  have h3 := (BitVec.ofInt 32 m ||| BitVec.ofInt 32 2147483648).isLt
  rw [h1] at h3 ⊢
  omega
theorem nat_big (m0 m1 m2 m3 : Int) : natB 1 m0 m1 m2 (bitsI .or .u32 m3 2147483648) = true := by
  have h := or_big m3
  generalize bitsI .or .u32 m3 2147483648 = m at *
  have h1 : decide (m < 16777216) = false := by simp; omega
  have h2 : decide (16777216 < m) = true := by simp; omega
  have h3 : cmpI m0 m1 m2 m 0 0 0 16777216 = 1 := by unfold cmpI; rw [h1, h2]; rfl
  simp [natB, h3]
theorem law_true (s n m0 m1 m2 m3 : Int) : evalAt tabE errL 8 Try.f8 [.int .i64 s, .int .i64 n, .agg [.int .u32 m0, .int .u32 m1, .int .u32 m2, .int .u32 m3]] = some (.bool true) := by
  rw [law_eval]
  have hw : ∀ t, rightB t = false → belowB t 5 = true ∧ natB t 5 0 0 0 = true := fun t ht => by simp [belowB, natB, ht]
  obtain ⟨b1, b2⟩ := bounds n
  rw [b1, b2, nat_big, of_right]
  cases h : rightB s with
  | true =>
    have h0 := neg_wrong h
    obtain ⟨w1, w2⟩ := hw _ h0
    rw [h0, w1, w2]; rfl
  | false =>
    obtain ⟨w1, w2⟩ := hw _ h
    rw [w1, w2]; rfl

theorem walk (a0 a1 x0 x1 x2 x3 : Int) (w : World) :
    Calls Try.prog 8 #[.int .i64 a0, .int .i64 a1, .agg #[.int .u32 x0, .int .u32 x1, .int .u32 x2, .int .u32 x3]] w fun e w' => e = .returned (.bool true) ∧ RowKit.Below w.heap.size w w' := by
  have h := calls_of_pure (pure_at tabE_ok errL_ok Try.func8 (by kernel_rfl) (law_true a0 a1 x0 x1 x2 x3) rfl rfl) rfl w
  simpa [concs, conc] using h

open Go.ChangeShapes Go.WideShapes Go.ChangeAt Go.RowKit Go.WideMaps
set_option linter.unusedVariables false

theorem own : ownKnob Try.prog.godebug = none := by kernel_rfl
theorem quad : ArrKey Try.prog 42 40 4 := ⟨Try.underlying42, by kernel_rfl, by kernel_rfl, by kernel_rfl⟩

set_option maxRecDepth 100000 in
theorem lifted (os : Os) (started : os.Started) (H : Type) (enc : TypeId × Value → H) :
    ReturnsInHanded {} Try.checked os 8 .any (Rows.seedWrongSpec.pre6 enc Try.prog Try.f8 Rows.seedWrongRow.domain false) (Rows.seedWrongSpec.post enc Try.prog Try.f8 false true false false) := by
  refine returnsInHanded_of_change (C := Try.checked) own started (by kernel_rfl) Try.func8
    (ChangeSpec.witness6 (enc := enc) (C := Try.checked) false ⟨#[], #[.int .i64 0, .int .i64 0, .agg #[.int .u32 0, .int .u32 0, .int .u32 0, .int .u32 0]], []⟩ 8 (by kernel_rfl) (by kernel_rfl) (by kernel_rfl) (by kernel_rfl)) ?_
  intro W base args ds gs before hval0 hW hcnd _
  have hval : ∀ (j : Nat) t v, Try.f8.params[j]? = some t → args[j]? = some v → Value.okWide Try.prog W .any base t v := hval0
  have hW' := hW
  obtain ⟨p, q, hA0, hV, rfl, hfz, hnd⟩ := hW
  have hA : DataW.TrodAll enc Try.prog W 0 (fun _ => true) true Try.f8.params.toList args.toList ds p := hA0
  rw [Try.params8] at hA hval
  obtain ⟨v0, vs0, d0, ds0, p0, q0, hargs, rfl, rfl, h0, r0⟩ := trodAll_cons hA
  obtain ⟨v1, vs1, d1, ds1, p1, q1, rfl, rfl, rfl, h1, r1⟩ := trodAll_cons r0
  obtain ⟨v2, vs2, d2, ds2, p2, q2, rfl, rfl, rfl, h2, r2⟩ := trodAll_cons r1
  obtain ⟨rfl, rfl, rfl⟩ := trodAll_nil r2
  obtain rfl : args = #[v0, v1, v2] := by cases args; simp_all
  obtain ⟨rfl, rfl⟩ := trodVars_none hV
  obtain ⟨a0, rfl, rfl, rfl, w0⟩ := open_int Try.underlying22 (hval 0 22 v0 rfl rfl) h0
  obtain ⟨a1, rfl, rfl, rfl, w1⟩ := open_int Try.underlying3 (hval 1 3 v1 rfl rfl) h1
  obtain ⟨x0, x1, x2, x3, rfl, rfl, rfl, w2, w3, w4, w5⟩ := open_quad quad Try.underlying40 (hval 2 42 v2 rfl rfl) h2
  clear hA0 hval0
  simp only [List.append_nil] at hW'
  refine (walk a0 a1 x0 x1 x2 x3 W).mono fun e W' ⟨he, hg⟩ => ?_
  subst he
  exact ⟨_, rfl, post_below (pa := []) (pv := []) hW' (fun _ _ _ => (trodAll_cons_mk (shut_bool Try.underlying4 _) trodAll_mk0)) (fun sp _ => (trodAll_cons_mk (shut_int Try.underlying22 w0) (trodAll_cons_mk (shut_int Try.underlying3 w1) (trodAll_cons_mk (shut_quad quad Try.underlying40 w2 w3 w4 w5) trodAll_mk0)))) (fun _ _ => rfl) rfl
    hg (ok_one (by kernel_rfl) rfl (okWide_bool_mk Try.underlying4 _))⟩

theorem over : Rows.seedWrongRow.holds Try.pinned (OpenSpec.ofChange Rows.seedWrongSpec) :=
  OpenClaim.holds_of_wide 8 Try.f8 rfl rfl rfl rfl rfl rfl rfl ⟨rfl, rfl, rfl, rfl, rfl⟩ rfl rfl rfl rfl rfl (by kernel_rfl) Try.func8 (by kernel_rfl)
    (of_decide_eq_true (by kernel_rfl)) (by unfold Func.isWrapper; first | (rw [if_pos (by decide +kernel)]; kernel_rfl) | (rw [if_neg (by decide +kernel)]; exact ⟨rfl, rfl⟩))
    (fun os started H enc _ => lifted os started H enc)

/-- The statement. -/
theorem proved : Rows.SeedWrongSaid := over
#print axioms proved
end Go.Proofs.Ytnbfnoomhlamnaa.seedWrong
