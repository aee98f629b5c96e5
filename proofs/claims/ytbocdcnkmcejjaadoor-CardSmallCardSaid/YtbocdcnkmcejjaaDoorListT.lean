/- Texts merged: ListT, Less0. -/
import Derived.Test.YtbocdcnkmcejjaaDoorTop
/- Chapter 4: the cards of a set, one after the other: the states of the loop in which they are yielded to List. -/
namespace Go.Proofs.YtbocdcnkmcejjaaDoor
open Go Go.Eng
/-! ### how many ones -/
def oc1 (x : Int) : Int := wr .u64 (bitsI .and .u64 (x.fdiv 2) 6148914691236517205 + bitsI .and .u64 x 6148914691236517205)
def oc2 (x : Int) : Int := wr .u64 (bitsI .and .u64 (x.fdiv 4) 3689348814741910323 + bitsI .and .u64 x 3689348814741910323)
def oc3 (x : Int) : Int := bitsI .and .u64 (wr .u64 (x.fdiv 16 + x)) 1085102592571150095
def oc4 (x : Int) : Int := wr .u64 (x + x.fdiv 256)
def oc5 (x : Int) : Int := wr .u64 (x + x.fdiv 65536)
def oc6 (x : Int) : Int := wr .u64 (x + x.fdiv 4294967296)
def ocI (m : Int) : Int := bitsI .and .i64 (wr .i64 (oc6 (oc5 (oc4 (oc3 (oc2 (oc1 m))))))) 127
theorem oc_eval (m : Int) : evalP tabP 39 Tryd.f39 [.int .u64 m] = some (.int .i64 (ocI m)) := by kernel_rfl
theorem oc_range (m : Int) : 0 ≤ ocI m ∧ ocI m ≤ 127 := by
  unfold ocI bitsI
  generalize wr .i64 (oc6 (oc5 (oc4 (oc3 (oc2 (oc1 m)))))) = x
  show 0 ≤ wr .i64 (((BitVec.ofInt 64 x &&& BitVec.ofInt 64 127).toNat : Nat) : Int) ∧ wr .i64 (((BitVec.ofInt 64 x &&& BitVec.ofInt 64 127).toNat : Nat) : Int) ≤ 127
  have h : (BitVec.ofInt 64 x &&& BitVec.ofInt 64 127).toNat ≤ 127 := by
    rw [BitVec.toNat_and]
    exact Nat.le_trans Nat.and_le_right (by decide)
  rw [wr64 (by omega) (by omega)]
  omega
def gOnes : List V → Option (Bool × V)
  | [.int .u64 m] => some (true, .int .i64 (ocI m))
  | _ => none
def tabO : PTab := addTab 39 gOnes tabL
theorem tabO_ok : PTabOk Tryd.prog tabO := by
  refine addTab_ok ?_ tabL_ok
  intro args c v h _
  unfold gOnes at h
  split at h
  · cases h; exact pure_at tabP_ok Tryd.func39 (by kernel_rfl) (oc_eval _) rfl rfl
  · cases h
/-! ### the loop -/
def o : Option TV := none
noncomputable def liA : Code := rangeA 6 Tryd.f21
noncomputable def liB : Code := rangeB 6 Tryd.f21
noncomputable def liLp : Code := loopOf 1 Tryd.f53
noncomputable def liLB : TB := .loopB false 21 [o, o, o, o, some (.ptr 1 0), o, o, o, o, o, o, o, o, o, o, o, o, o, o] [13] liA liB 3
def liS : TS := mkS [(0, .yield 4), (3, .int .u64)] 0 20
noncomputable def liT0 : Tm := ⟨liS, [.grow true 5 1 (.ints .u8), .own 37 (.vs [.gs 0]), .dead, .defs, liLB], []⟩
noncomputable def liT1 : Tm := ⟨liS, [.dead, .own 37 (.vs [.gs 5]), .dead, .defs, liLB, .grow true 5 1 (.ints .u8)], []⟩
noncomputable abbrev orcO : Oracle := inl Tryd.prog ftab tabO plainL 100 never never (oracleOf emptyTab) 20
theorem orcO_ok : OracleOk Tryd.prog orcO := inl_ok (oracleOf_ok emptyTab_ok) ftab_ok tabO_ok plainL_ok mixed 20
end Go.Proofs.YtbocdcnkmcejjaaDoor

/- Chapter 4: one round of CardLess's loops; bits. -/
namespace Go.Proofs.YtbocdcnkmcejjaaDoor
open Go Go.Eng
def bitI (r c : Int) : Int := bitsI .and .u64 (r.fdiv (2 ^ shAmt .u64 c)) 1
theorem cl_round1 (rd : Option Nat) (m s r l : Int) (b : Bool) (g : List Int) : roundT Tryd.prog (orcA tabL plainL) noLoops 100 1 rd 5 clLp1 clT1 clX1 [.i m, .i s, .b b, .i r, .i l, .l g] =
    bif decide (0 ≤ r ∧ r < 4503599627370496 ∧ 0 ≤ s ∧ s ≤ 3) then bif !(!(hN r.toNat s.toNat == 0)) then some (.exit 0, [.i m, .i s, .b b, .i r, .l g], []) else
      bif decide (l ≤ (topN r.toNat s.toNat : Nat)) then some (.ret, [.i m, .i s, .b false, .i r, .l g], []) else bif !decide (suitI (topN r.toNat s.toNat : Nat) = s) then some (.ret, [.i m, .i s, .b false, .i r, .l g], []) else
      bif decide (bitI r (topN r.toNat s.toNat : Nat) = 0) then some (.ret, [.i m, .i s, .b false, .i r, .l g], []) else
      some (.normal, [.i m, .i s, .b b, .i (bitsI .andNot .u64 r (wr .u64 (1 * 2 ^ shAmt .u64 (topN r.toNat s.toNat : Nat)))), .i (topN r.toNat s.toNat : Nat), .l g], [])
    else none := by kernel_rfl
theorem bit_nat {r c : Nat} (hr : r < 18446744073709551616) (hc : c < 64) : bitI (r : Int) (c : Int) = if r.testBit c then 1 else 0 := by
  unfold bitI
  have sh : shAmt .u64 (c : Int) = c := by
    unfold shAmt
    show min ((c : Int)).toNat 64 = c
    omega
  have e : ((r : Int).fdiv (2 ^ c)) = ((r / 2 ^ c : Nat) : Int) := by
    rw [show (2 : Int) ^ c = ((2 ^ c : Nat) : Int) by rw [Int.natCast_pow]; rfl]
    rw [Int.fdiv_eq_ediv_of_nonneg _ (Int.natCast_nonneg _)]
    rfl
  rw [sh, e]
  have := and_nat (a := r / 2 ^ c) (b := 1) (Nat.lt_of_le_of_lt (Nat.div_le_self _ _) hr) (by omega)
  rw [show ((1 : Nat) : Int) = 1 from rfl] at this
  rw [this, Nat.and_one_is_mod, Nat.testBit_eq_decide_div_mod_eq]
  by_cases h : r / 2 ^ c % 2 = 1
  · rw [h, decide_eq_true rfl]; rfl
  · rw [decide_eq_false h, show r / 2 ^ c % 2 = 0 by omega]; rfl
/-- A set without its highest card of a suit. -/
theorem clear_nat {r t : Nat} (hr : r < 4503599627370496) (ht : t < 52) : ∃ r' : Nat, bitsI .andNot .u64 (r : Int) (wr .u64 (1 * 2 ^ shAmt .u64 (t : Int))) = (r' : Int) ∧ r' < 4503599627370496 ∧ ∀ i, r'.testBit i = (r.testBit i && !decide (t = i)) := by
  have sh : shAmt .u64 (t : Int) = t := by
    unfold shAmt
    show min ((t : Int)).toNat 64 = t
    omega
  have hp : 2 ^ t < 18446744073709551616 := Nat.lt_of_lt_of_le (Nat.pow_lt_pow_right (by decide) ht) (show 2 ^ 52 ≤ 18446744073709551616 by decide)
  have e : wr .u64 (1 * 2 ^ shAmt .u64 (t : Int)) = ((2 ^ t : Nat) : Int) := by
    rw [sh, Int.one_mul, show (2 : Int) ^ t = ((2 ^ t : Nat) : Int) by rw [Int.natCast_pow]; rfl, wrU hp]
  rw [e]
  obtain ⟨r', h1, h2⟩ := andNot_nat (a := r) (b := 2 ^ t) (by omega) hp
  have hb : ∀ i, r'.testBit i = (r.testBit i && !decide (t = i)) := fun i => by rw [h2 i, Nat.testBit_two_pow]
  refine ⟨r', h1, ?_, hb⟩
  have : r' < 2 ^ 52 := Nat.lt_pow_two_of_testBit r' fun i hi => by
    rw [hb i, Nat.testBit_lt_two_pow (Nat.lt_of_lt_of_le hr (Nat.le_trans (show 4503599627370496 ≤ 2 ^ 52 by decide) (Nat.pow_le_pow_right (show 0 < 2 by decide) hi)))]
    rfl
  exact this
end Go.Proofs.YtbocdcnkmcejjaaDoor
