/- Chapter 4: the cards of a set, one after the other: the states of the loop in which they are yielded to List. -/
import Derived.Test.YtbocdcnkmcejjaaDoorTop
namespace Go.Proofs.YtbocdcnkmcejjaaDoor
open Go Go.Eng
/-! ### how many ones -/
def oc1 (x : Int) : Int := wr .u64 (bitsI .and .u64 (x.fdiv 2) 6148914691236517205 + bitsI .and .u64 x 6148914691236517205)
def oc2 (x : Int) : Int := wr .u64 (bitsI .and .u64 (x.fdiv 4) 3689348814741910323 + bitsI .and .u64 x 3689348814741910323)
def oc3 (x : Int) : Int := bitsI .and .u64 (wr .u64 (x.fdiv 16 + x)) 1085102592571150095
def oc4 (x : Int) : Int := wr .u64 (x + x.fdiv 256)
def oc5 (x : Int) : Int := wr .u64 (x + x.fdiv 65536)
def oc6 (x : Int) : Int := wr .u64 (x + x.fdiv 4294967296)
def ocI (m : Int) : Int := bitsI .and .i64 (wr .i64 (oc6 (oc5 (oc4 (oc3 (oc2 (oc1 m))))))) 127
theorem oc_eval (m : Int) : evalP tabP 39 Tryd.f39 [.int .u64 m] = some (.int .i64 (ocI m)) := by kernel_rfl
theorem oc_range (m : Int) : 0 ≤ ocI m ∧ ocI m ≤ 127 := by
  unfold ocI bitsI
  generalize wr .i64 (oc6 (oc5 (oc4 (oc3 (oc2 (oc1 m)))))) = x
  show 0 ≤ wr .i64 (((BitVec.ofInt 64 x &&& BitVec.ofInt 64 127).toNat : Nat) : Int) ∧ wr .i64 (((BitVec.ofInt 64 x &&& BitVec.ofInt 64 127).toNat : Nat) : Int) ≤ 127
  have h : (BitVec.ofInt 64 x &&& BitVec.ofInt 64 127).toNat ≤ 127 := by
    rw [BitVec.toNat_and]
    exact Nat.le_trans Nat.and_le_right (by decide)
  rw [wr64 (by omega) (by omega)]
  omega
def gOnes : List V → Option (Bool × V)
  | [.int .u64 m] => some (true, .int .i64 (ocI m))
  | _ => none
def tabO : PTab := addTab 39 gOnes tabL
theorem tabO_ok : PTabOk Tryd.prog tabO := by
  refine addTab_ok ?_ tabL_ok
  intro args c v h _
  unfold gOnes at h
  split at h
  · cases h; exact pure_at tabP_ok Tryd.func39 (by kernel_rfl) (oc_eval _) rfl rfl
  · cases h
/-! ### the loop -/
def o : Option TV := none
noncomputable def liA : Code := rangeA 6 Tryd.f21
noncomputable def liB : Code := rangeB 6 Tryd.f21
noncomputable def liLp : Code := loopOf 1 Tryd.f53
noncomputable def liLB : TB := .loopB false 21 [o, o, o, o, some (.ptr 1 0), o, o, o, o, o, o, o, o, o, o, o, o, o, o] [13] liA liB 3
def liS : TS := mkS [(0, .yield 4), (3, .int .u64)] 0 20
noncomputable def liT0 : Tm := ⟨liS, [.grow true 5 1 (.ints .u8), .own 37 (.vs [.gs 0]), .dead, .defs, liLB], []⟩
noncomputable def liT1 : Tm := ⟨liS, [.dead, .own 37 (.vs [.gs 5]), .dead, .defs, liLB, .grow true 5 1 (.ints .u8)], []⟩
noncomputable abbrev orcO : Oracle := inl Tryd.prog ftab tabO plainL 100 never never (oracleOf emptyTab) 20
theorem orcO_ok : OracleOk Tryd.prog orcO := inl_ok (oracleOf_ok emptyTab_ok) ftab_ok tabO_ok plainL_ok mixed 20
end Go.Proofs.YtbocdcnkmcejjaaDoor
