/- Chapter 4: a part of a text is read. -/
import Derived.Test.YtpalajfcffdhoaaDoorCSplit2
namespace Go.Proofs.YtpalajfcffdhoaaDoor.N4
open Go Go.Eng
noncomputable def paLp : Code := loopOf 11 Tryd.f16
def paT : Tm := ⟨mkS [(2, .int .u64), (3, .int .i64), (4, .int .u64), (6, .int .i64), (7, .str), (8, .int .i64), (23, .agg [.str, .str, .str, .str]), (24, .int .i64), (29, .int .i64), (30, .int .i64)] 0 56, [], []⟩
def paX : Tm := ⟨mkS [(2, .int .u64), (3, .int .i64), (4, .int .u64), (23, .agg [.str, .str, .str, .str]), (24, .int .i64)] 0 56, [], []⟩
def rkI (b : UInt8) : Int := idxI ⟨⟨[50, 51, 52, 53, 54, 55, 56, 57, 84, 74, 81, 75, 65]⟩⟩ b.toNat
def paB (i k : Int) : Int := wr .i64 (wr .i64 (wr .i64 (3 - i) * 13) + k)
noncomputable def paK (z e m i la i2 n j k : Int) (p s0 s1 s2 s3 : ByteArray) : RT := bif decide (k < 0) then some (.ret, [.i 0, .i 40, .i m, .s s0, .s s1, .s s2, .s s3, .i i2], []) else
    bif decide (la ≤ k) then some (.ret, [.i 0, .i 40, .i m, .s s0, .s s1, .s s2, .s s3, .i i2], []) else
    bif decide (paB i k < 0) then none else
    some (.normal, [.i z, .i e, .i (bitsI .or .u64 m (wr .u64 (1 * 2 ^ shAmt .u64 (paB i k)))), .i i, .s p, .i k, .s s0, .s s1, .s s2, .s s3, .i i2, .i n, .i (wr .i64 (j + 1))], [])
noncomputable def paR (z e m i la i2 n j : Int) (p s0 s1 s2 s3 : ByteArray) : RT := bif decide (j < n) then bif decide (0 ≤ j) then match p.data.toList[j.toNat]? with
    | some b => paK z e m i la i2 n j (rkI b) p s0 s1 s2 s3
    | none => none
  else none else some (.exit 2, [.i z, .i e, .i m, .s s0, .s s1, .s s2, .s s3, .i i2], [])
theorem pa_round (rd : Option Nat) (z e m i la i2 n j : Int) (p s0 s1 s2 s3 : ByteArray) : roundT Tryd.prog (orcS tabI plainL) noLoops 100 0 rd 16 paLp paT paX [.i z, .i e, .i m, .i i, .s p, .i la, .s s0, .s s1, .s s2, .s s3, .i i2, .i n, .i j] = paR z e m i la i2 n j p s0 s1 s2 s3 := by kernel_rfl
/-! ### the rank of a byte -/
theorem rk_all : allN 256 (fun n => match Lib.indexByte rU (UInt8.ofNat n) with
    | .ofNat k => decide (k < 13) && decide (rU.getD k 0 = UInt8.ofNat n)
    | .negSucc _ => rU.all fun c => decide (c ≠ UInt8.ofNat n)) = true := by kernel_rfl
theorem rk_eq (b : UInt8) : rkI b = Lib.indexByte rU b := by unfold rkI idxI; simp [rU]
theorem rk_cases (b : UInt8) : (∃ k : Nat, rkI b = k ∧ k < 13 ∧ rU.getD k 0 = b) ∨ (rkI b < 0 ∧ b ∉ rU) := by
  have h := allN_ok rk_all b.toNat (UInt8.toNat_lt b)
  have e : UInt8.ofNat b.toNat = b := by simp
  rw [e] at h
  rw [rk_eq]
  cases hk : Lib.indexByte rU b with
  | ofNat k =>
    rw [hk] at h
    simp only [Bool.and_eq_true, decide_eq_true_eq] at h
    exact .inl ⟨k, rfl, h.1, h.2⟩
  | negSucc k =>
    rw [hk] at h
    simp only [List.all_eq_true, decide_eq_true_eq] at h
    exact .inr ⟨by omega, fun hm => h b hm rfl⟩
theorem rk_of : allN 13 (fun k => decide (rkI (rU.getD k 0) = Int.ofNat k) && decide (rU.getD k 0 ≠ 46)) = true := by kernel_rfl
theorem rk_get {k : Nat} (hk : k < 13) : rkI (rU.getD k 0) = k ∧ rU.getD k 0 ≠ 46 := by
  have := allN_ok rk_of k hk
  simp only [Bool.and_eq_true, decide_eq_true_eq] at this
  exact this
/-- A part is read: whether it is right; the set. -/
def pp (s : Nat) : List UInt8 → Nat → Nat → Bool × Nat
  | [], _, m => (true, m)
  | b :: r, la, m => if rkI b < 0 ∨ (la : Int) ≤ rkI b then (false, m) else pp s r (rkI b).toNat (m ||| 2 ^ (13 * s + (rkI b).toNat))
theorem or_nat {a b : Nat} (ha : a < 18446744073709551616) (hb : b < 18446744073709551616) : bitsI .or .u64 (a : Int) (b : Int) = ((a ||| b : Nat) : Int) := by
  unfold bitsI
  show wr .u64 (((BitVec.ofInt 64 (a : Int) ||| BitVec.ofInt 64 (b : Int)).toNat : Nat) : Int) = _
  rw [BitVec.toNat_or, bv_of a ha, bv_of b hb, wrU]
  exact Nat.or_lt_two_pow (n := 64) ha hb
theorem or_bit {m q : Nat} (hm : m < 4503599627370496) (hq : q < 52) : bitsI .or .u64 (m : Int) (wr .u64 (1 * 2 ^ shAmt .u64 (q : Int))) = ((m ||| 2 ^ q : Nat) : Int) ∧ m ||| 2 ^ q < 4503599627370496 := by
  have sh : shAmt .u64 (q : Int) = q := by
    unfold shAmt
    show min ((q : Int)).toNat 64 = q
    omega
  have h52 : (2 : Nat) ^ q < 2 ^ 52 := Nat.pow_lt_pow_right (by decide) hq
  have hp : 2 ^ q < 18446744073709551616 := by omega
  have e : wr .u64 (1 * 2 ^ shAmt .u64 (q : Int)) = ((2 ^ q : Nat) : Int) := by
    rw [sh, Int.one_mul, show (2 : Int) ^ q = ((2 ^ q : Nat) : Int) by rw [Int.natCast_pow]; rfl, wrU hp]
  rw [e]
  exact ⟨or_nat (by omega) hp, Nat.or_lt_two_pow (n := 52) hm h52⟩
theorem pa_loop (rd : Option Nat) (s : Nat) (hs : s ≤ 3) (p : List UInt8) (hp : p.length ≤ 60) (i2 : Int) (s0 s1 s2 s3 : ByteArray) : ∀ x : List UInt8 × Nat × Nat, ((∃ q, p = q ++ x.1) ∧ x.2.1 ≤ 13 ∧ x.2.2 < 4503599627370496) →
    SimC Tryd.prog 0 rd (.loop paLp) (paT.at [.i 0, .i 0, .i (x.2.2 : Int), .i ((3 - s : Nat) : Int), .s (bA p), .i (x.2.1 : Int), .s s0, .s s1, .s s2, .s s3, .i i2, .i (p.length : Int), .i ((p.length - x.1.length : Nat) : Int)])
      (bif (pp s x.1 x.2.1 x.2.2).1 then .exit 2 else .ret)
      (paX.at [.i 0, .i (bif (pp s x.1 x.2.1 x.2.2).1 then 0 else 40), .i ((pp s x.1 x.2.1 x.2.2).2 : Int), .s s0, .s s1, .s s2, .s s3, .i i2]) := by
  refine loop_of_rounds (C := orcS tabI plainL) (L := noLoops) (N := 100) (me := 16) (T := paT) (T' := paX) (orcS_ok tabI_ok plainL_ok) mixed noLoops_ok (by kernel_rfl) (by kernel_rfl) (X := List UInt8 × Nat × Nat)
    (fun x => [.i 0, .i 0, .i (x.2.2 : Int), .i ((3 - s : Nat) : Int), .s (bA p), .i (x.2.1 : Int), .s s0, .s s1, .s s2, .s s3, .i i2, .i (p.length : Int), .i ((p.length - x.1.length : Nat) : Int)])
    (fun x => (∃ q, p = q ++ x.1) ∧ x.2.1 ≤ 13 ∧ x.2.2 < 4503599627370496) (fun x => x.1.length)
    (fun x => ((bif (pp s x.1 x.2.1 x.2.2).1 then .exit 2 else .ret), [.i 0, .i (bif (pp s x.1 x.2.1 x.2.2).1 then 0 else 40), .i ((pp s x.1 x.2.1 x.2.2).2 : Int), .s s0, .s s1, .s s2, .s s3, .i i2])) ?_
  rintro ⟨r, la, m⟩ ⟨⟨q, hq⟩, hla, hm⟩
  dsimp only at hq hla hm ⊢
  have hlen : p.length = q.length + r.length := by rw [hq]; simp
  have h := pa_round rd 0 0 m ((3 - s : Nat) : Int) la i2 p.length ((p.length - r.length : Nat) : Int) (bA p) s0 s1 s2 s3
  unfold paR at h
  rw [show (((p.length - r.length : Nat) : Int)).toNat = p.length - r.length by omega, show (bA p).data.toList = p from rfl] at h
  cases r with
  | nil =>
    rw [decide_eq_false (show ¬ ((p.length - ([] : List UInt8).length : Nat) : Int) < (p.length : Int) by simp)] at h
    exact ⟨_, _, _, h, codes0, .inr ⟨by simp, rfl⟩⟩
  | cons b r =>
    simp only [List.length_cons] at hlen h ⊢
    have hb : p[p.length - (r.length + 1)]? = some b := by
      rw [show p.length - (r.length + 1) = q.length by omega, hq, List.getElem?_append_right (Nat.le_refl _), Nat.sub_self]; rfl
    rw [decide_eq_true (show ((p.length - (r.length + 1) : Nat) : Int) < (p.length : Int) by omega), decide_eq_true (show 0 ≤ ((p.length - (r.length + 1) : Nat) : Int) by omega), hb] at h
    simp only [cond_true] at h
    unfold paK at h
    simp only [pp]
    by_cases h1 : rkI b < 0
    · rw [decide_eq_true h1] at h
      rw [if_pos (.inl h1)]
      exact ⟨_, _, _, h, codes0, .inr ⟨by simp, rfl⟩⟩
    · rw [decide_eq_false h1] at h
      by_cases h2 : (la : Int) ≤ rkI b
      · rw [decide_eq_true h2] at h
        rw [if_pos (.inr h2)]
        exact ⟨_, _, _, h, codes0, .inr ⟨by simp, rfl⟩⟩
      · rw [decide_eq_false h2] at h
        rw [if_neg (by omega)]
        obtain ⟨k, hk⟩ : ∃ k : Nat, rkI b = k := ⟨(rkI b).toNat, by omega⟩
        rw [hk] at h h2 ⊢
        have hB : paB ((3 - s : Nat) : Int) (k : Int) = ((13 * s + k : Nat) : Int) := by
          unfold paB
          rw [wr64 (x := 3 - ((3 - s : Nat) : Int)) (by omega) (by omega), wr64 (x := (3 - ((3 - s : Nat) : Int)) * 13) (by omega) (by omega), wr64 (by omega) (by omega)]
          omega
        obtain ⟨o1, o2⟩ := or_bit (m := m) (q := 13 * s + k) hm (by omega)
        rw [hB, o1, decide_eq_false (show ¬ ((13 * s + k : Nat) : Int) < 0 by omega), wr64 (x := ((p.length - (r.length + 1) : Nat) : Int) + 1) (by omega) (by omega),
          show ((p.length - (r.length + 1) : Nat) : Int) + 1 = ((p.length - r.length : Nat) : Int) by omega] at h
        rw [show ((k : Int)).toNat = k by omega]
        exact ⟨_, _, _, h, codes0, .inl ⟨rfl, (r, k, m ||| 2 ^ (13 * s + k)), rfl, ⟨⟨q ++ [b], by simp [hq]⟩, by dsimp only; omega, o2⟩, by simp, rfl⟩⟩
end Go.Proofs.YtpalajfcffdhoaaDoor.N4
