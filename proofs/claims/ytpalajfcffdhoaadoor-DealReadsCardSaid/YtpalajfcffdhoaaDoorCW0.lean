/- Texts merged: CW0, CWrite. -/
import Derived.Test.YtpalajfcffdhoaaDoorCBase
/- Chapter 4 under chapter 6's numbers: what Write's texts begin with. -/
namespace Go.Proofs.YtpalajfcffdhoaaDoor.N4
open Go Go.Eng
def o : Option TV := none
def rU : List UInt8 := [50, 51, 52, 53, 54, 55, 56, 57, 84, 74, 81, 75, 65]
theorem wr8 {x : Int} (h1 : 0 ≤ x) (h2 : x < 256) : wr .u8 x = x := by
  simp only [wr]; omega
theorem wr64 {x : Int} (h1 : -9223372036854775808 ≤ x) (h2 : x < 9223372036854775808) : wr .i64 x = x := by
  simp only [wr, sgn]
  cases h : decide (9223372036854775808 ≤ x % 18446744073709551616) with
  | true => simp only [decide_eq_true_eq] at h; simp only [cond_true]; omega
  | false => simp only [decide_eq_false_iff_not] at h; simp only [cond_false]; omega
theorem wrU {n : Nat} (h : n < 18446744073709551616) : wr .u64 (n : Int) = n := by
  simp only [wr]; omega
theorem bv_of (n : Nat) (h : n < 18446744073709551616) : (BitVec.ofInt 64 (n : Int)).toNat = n := by
  simp only [BitVec.toNat_ofInt]; omega
theorem andNot_nat {a b : Nat} (ha : a < 18446744073709551616) (hb : b < 18446744073709551616) :
    ∃ c : Nat, bitsI .andNot .u64 (a : Int) (b : Int) = (c : Int) ∧ ∀ i, c.testBit i = (a.testBit i && !b.testBit i) := by
  unfold bitsI
  refine ⟨(BitVec.ofInt 64 (a : Int) &&& ~~~(BitVec.ofInt 64 (b : Int))).toNat, ?_, fun i => ?_⟩
  · show wr .u64 (((BitVec.ofInt 64 (a : Int) &&& ~~~(BitVec.ofInt 64 (b : Int))).toNat : Nat) : Int) = _
    exact wrU (BitVec.isLt _)
  · rw [BitVec.toNat_and, Nat.testBit_and, bv_of a ha]
    by_cases hi : i < 64
    · congr 1
      rw [BitVec.testBit_toNat, BitVec.getLsbD_not, ← BitVec.testBit_toNat, bv_of b hb]
      simp [hi]
    · have hp : 18446744073709551616 ≤ 2 ^ i := Nat.le_trans (show 18446744073709551616 ≤ 2 ^ 64 by decide) (Nat.pow_le_pow_right (show 0 < 2 by decide) (show 64 ≤ i by omega))
      rw [Nat.testBit_lt_two_pow (x := a) (i := i) (Nat.lt_of_lt_of_le ha hp)]
      simp
theorem big_spec {r : Nat} (hr : r < 4503599627370496) (h0 : r ≠ 0) : 1 ≤ Lib.bitLen r ∧ Lib.bitLen r ≤ 52 ∧ r.testBit (Lib.bitLen r - 1) = true ∧ ∀ i, Lib.bitLen r ≤ i → r.testBit i = false := by
  obtain ⟨b1, b2, b3⟩ := Lib.bitLenAux_bounds 64 r (by omega) h0
  have e : Lib.bitLen r = Lib.bitLenAux 64 r := rfl
  rw [← e] at b1 b2 b3
  have hle := Lib.bitLen_le r 52 (by omega) hr
  generalize Lib.bitLen r = n at *
  obtain ⟨k, rfl⟩ : ∃ k, n = k + 1 := ⟨n - 1, by omega⟩
  simp only [Nat.add_sub_cancel] at b2 ⊢
  refine ⟨by omega, hle, ?_, fun i hi => Nat.testBit_lt_two_pow (Nat.lt_of_lt_of_le b3 (Nat.pow_le_pow_right (by decide) hi))⟩
  rw [Nat.testBit_eq_decide_div_mod_eq, decide_eq_true_eq]
  have h1 : 1 ≤ r / 2 ^ k := (Nat.le_div_iff_mul_le (Nat.two_pow_pos k)).2 (by omega)
  have h2 : r / 2 ^ k < 2 := (Nat.div_lt_iff_lt_mul (Nat.two_pow_pos k)).2 (by rw [Nat.pow_succ] at b3; omega)
  omega
theorem clear_nat {r t : Nat} (hr : r < 4503599627370496) (ht : t < 52) : ∃ r' : Nat, bitsI .andNot .u64 (r : Int) (wr .u64 (1 * 2 ^ shAmt .u64 (t : Int))) = (r' : Int) ∧ r' < 4503599627370496 ∧ ∀ i, r'.testBit i = (r.testBit i && !decide (t = i)) := by
  have sh : shAmt .u64 (t : Int) = t := by
    unfold shAmt
    show min ((t : Int)).toNat 64 = t
    omega
  have hp : 2 ^ t < 18446744073709551616 := Nat.lt_of_lt_of_le (Nat.pow_lt_pow_right (by decide) ht) (show 2 ^ 52 ≤ 18446744073709551616 by decide)
  have e : wr .u64 (1 * 2 ^ shAmt .u64 (t : Int)) = ((2 ^ t : Nat) : Int) := by
    rw [sh, Int.one_mul, show (2 : Int) ^ t = ((2 ^ t : Nat) : Int) by rw [Int.natCast_pow]; rfl, wrU hp]
  rw [e]
  obtain ⟨r', h1, h2⟩ := andNot_nat (a := r) (b := 2 ^ t) (by omega) hp
  have hb : ∀ i, r'.testBit i = (r.testBit i && !decide (t = i)) := fun i => by rw [h2 i, Nat.testBit_two_pow]
  refine ⟨r', h1, ?_, hb⟩
  have : r' < 2 ^ 52 := Nat.lt_pow_two_of_testBit r' fun i hi => by
    rw [hb i, Nat.testBit_lt_two_pow (Nat.lt_of_lt_of_le hr (Nat.le_trans (show 4503599627370496 ≤ 2 ^ 52 by decide) (Nat.pow_le_pow_right (show 0 < 2 by decide) hi)))]
    rfl
  exact this
theorem suit_nat {t : Nat} (ht : t < 52) : suitI (t : Int) = ((t / 13 : Nat) : Int) := by
  unfold suitI
  rw [decide_eq_true (show (t : Int) < 52 by omega), cond_true, Int.tdiv_eq_ediv_of_nonneg (by omega), wr8 (by omega) (by omega)]
  rfl
theorem rank_nat {t : Nat} (ht : t < 52) : rankI (t : Int) = ((t % 13 : Nat) : Int) := by
  unfold rankI
  rw [decide_eq_true (show (t : Int) < 52 by omega), cond_true, Int.tmod_eq_emod_of_nonneg (by omega)]
  rfl
def gLn4 : List V → Option (Bool × V)
  | [.int .u64 x] => some (decide (0 ≤ x ∧ x ≤ 18446744073709551615), .int .i64 (lenI x))
  | _ => none
def tabO : PTab := addK (addTab 52 gLn4 emptyTab)
theorem tabO_ok : PTabOk Tryd.prog tabO := by
  refine addK_ok (addTab_ok ?_ emptyTab_ok)
  intro args c v h hc
  unfold gLn4 at h
  split at h
  · rename_i x
    cases h
    rw [decide_eq_true_eq] at hc
    exact tabN_ok (f := 52) (args := [.int .u64 x]) (c := in64 x) (v := .int .i64 (lenI x)) rfl (in64_iff.2 ⟨by omega, by omega⟩)
  · cases h
noncomputable abbrev orcO : Oracle := inl Tryd.prog ftab tabO plainL 100 never never (oracleOf emptyTab) 20
theorem orcO_ok : OracleOk Tryd.prog orcO := inl_ok (oracleOf_ok emptyTab_ok) ftab_ok tabO_ok plainL_ok mixed 20
def hTabJ : HTab := addH 13 gJoin emptyH
theorem hTabJ_ok : HTabOk Tryd.prog hTabJ := by
  refine addH_ok ?_ emptyH_ok
  intro args h c v nb hq hc
  unfold gJoin at hq
  split at hq
  · cases hq
    simp only [Bool.and_eq_true, decide_eq_true_eq] at hc
    exact ⟨.of Tryd.func13 (by kernel_rfl), by rw [List.append_nil]; exact join_fn Tryd.strings_Join Tryd.strings_Join_none hc.1 hc.2⟩
  · cases hq
noncomputable abbrev orcS (T : PTab) (LL : FuncId → Loops) : Oracle := inl Tryd.prog ftab T LL 100 never (fun f => Nat.beq f 13) (hOrcP nrN hTabJ) 20
theorem orcS_ok {T : PTab} (hT : PTabOk Tryd.prog T) {LL : FuncId → Loops} (hL : ∀ f, loopsOk Tryd.prog (LL f)) : OracleOk Tryd.prog (orcS T LL) := inl_ok (hOrcP_ok hTabJ_ok) ftab_ok hT hL mixed 20
end Go.Proofs.YtpalajfcffdhoaaDoor.N4

/- Chapter 4: what Write does in one round. -/
namespace Go.Proofs.YtpalajfcffdhoaaDoor.N4
open Go Go.Eng
noncomputable def wrA : Code := rangeA 6 Tryd.f12
noncomputable def wrB : Code := rangeB 6 Tryd.f12
noncomputable def wrLp : Code := loopOf 1 Tryd.f51
noncomputable def wrLB : TB := .loopB false 12 [o, o, o, o, some (.ptr 0 0), o, o, o, o, o, o, o, o, o, o, o, o, o, o, o, o, o, o, o, o, o] [10] wrA wrB 2
def wrS : TS := mkS [(0, .yield 3), (1, .ptr 1 0), (3, .int .u64)] 0 20
noncomputable def wrT : Tm := ⟨wrS, [.own 37 .strs, .own 23 (.vs [.int .u64]), .defs, wrLB], []⟩
def rkS : ByteArray := ⟨⟨rU⟩⟩
def wrC (r : Int) : Int := wr .i64 (lenI r - 1)
def wrI (c : Int) : Int := wr .u8 (3 - suitI (wr .u8 c))
def wrK (c : Int) : Int := rankI (wr .u8 c)
def wrX (c : Int) : ByteArray := extS ⟨⟨[50, 51, 52, 53, 54, 55, 56, 57, 84, 74, 81, 75, 65]⟩⟩ (wrK c).toNat (wr .u8 (wrK c + 1)).toNat
noncomputable def wrN (r c i k : Int) (ps : List ByteArray) (m : Int) (x : ByteArray) : RT := bif !decide (r = 0) then bif decide (0 ≤ r ∧ r ≤ 18446744073709551615) then bif decide (0 ≤ i ∧ i < 4) then
    match ps[i.toNat]? with
    | some v => bif decide (0 ≤ k ∧ k ≤ wr .u8 (k + 1) ∧ wr .u8 (k + 1) ≤ 13) then bif decide (v.data.toList.length + x.data.toList.length ≤ 9223372036854775807) then bif decide (0 ≤ i ∧ i < 4) then bif decide (i.toNat < ps.length) then
        bif decide (c < 0) then none else some (.normal, [.i (bitsI .andNot .u64 r (wr .u64 (1 * 2 ^ shAmt .u64 c))), .ss (ps.set i.toNat (catS v x)), .i m], [(wrA, wrA), (wrB, wrB)])
      else none else none else none else none
    | none => none
  else none else none else some (.exit 0, [.i r, .ss ps, .i m], [(wrA, wrA), (wrB, wrB)])
theorem wr_round (rd : Option Nat) (r m : Int) (ps : List ByteArray) : roundT Tryd.prog orcO noLoops 100 4 rd 51 wrLp wrT wrT [.i r, .ss ps, .i m] = wrN r (wrC r) (wrI (wrC r)) (wrK (wrC r)) ps m (wrX (wrC r)) := by kernel_rfl
end Go.Proofs.YtpalajfcffdhoaaDoor.N4
