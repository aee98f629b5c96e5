/- Chapter 4, the reference: List and Write: their inner loops. -/
import Derived.Test.YtbocdcnkmcejjaaDoorRHas
import Derived.Test.YtbocdcnkmcejjaaDoorWrite2
import Derived.Test.YtbocdcnkmcejjaaDoorList
namespace Go.Proofs.YtbocdcnkmcejjaaDoor
open Go Go.Eng
structure NR where
  has : Int → Int → Bool
  hasC : Int → Int → Bool
  sg : Int → ByteArray
  bit : Int → Int
  bitC : Int → Bool
def gHasN (N : NR) : List V → Option (Bool × V)
  | [.int .u64 m, .int .i64 c] => some (N.hasC m c, .bool (N.has m c))
  | _ => none
def gSignN (N : NR) : List V → Option (Bool × V)
  | [.int .i64 r] => some (true, .str (N.sg r))
  | _ => none
def gBitN (N : NR) : List V → Option (Bool × V)
  | [.int .u8 c] => some (N.bitC c, .int .u64 (N.bit c))
  | _ => none
def tabNR (N : NR) : PTab := addTab 47 (gHasN N) (addTab 48 (gSignN N) (addTab 57 (gBitN N) emptyTab))
noncomputable abbrev orcNR (N : NR) : Oracle := inl Tryd.prog ftab (tabNR N) plainL 100 never never orc0 20
def R0 : NR := ⟨hasB, fun m c => decide ((0 ≤ m ∧ m < 18446744073709551616) ∧ 0 ≤ c ∧ c ≤ 1000), sgB, fun c => ((2 ^ c.toNat : Nat) : Int), fun c => decide (0 ≤ c ∧ c ≤ 63)⟩
theorem tabNR_ok : PTabOk Tryd.prog (tabNR R0) := by
  refine addTab_ok ?_ (addTab_ok ?_ (addTab_ok ?_ emptyTab_ok))
  · intro args c v h hc
    unfold gHasN at h
    split at h
    · cases h
      have hc := of_decide_eq_true hc
      exact has_p hc.1 hc.2.1 hc.2.2
    · cases h
  · intro args c v h _
    unfold gSignN at h
    split at h
    · cases h; exact sign_p _
    · cases h
  · intro args c v h hc
    unfold gBitN at h
    split at h
    · cases h
      have hc := of_decide_eq_true hc
      exact bit_p hc.1 hc.2
    · cases h
theorem orcNR_ok : OracleOk Tryd.prog (orcNR R0) := inl_ok orc0_ok ftab_ok tabNR_ok plainL_ok mixed 20
def u8R : TR := .ints .u8
noncomputable def rlLp : Code := loopOf 8 Tryd.f26
def rlT : Tm := ⟨mkS [(0, .int .u64), (4, .gs 0), (5, .int .i64), (6, .int .i64)] 0 33, [.grow false 5 1 u8R], []⟩
def rlX : Tm := ⟨mkS [(0, .int .u64), (4, .gs 0), (5, .int .i64)] 0 33, [.grow false 5 1 u8R], []⟩
noncomputable def rwLp : Code := loopOf 8 Tryd.f25
def rwT : Tm := ⟨mkS [(0, .int .u64), (4, .str), (5, .int .i64), (6, .int .i64)] 0 33, [], []⟩
def rwX : Tm := ⟨mkS [(0, .int .u64), (4, .str), (5, .int .i64)] 0 33, [], []⟩
end Go.Proofs.YtbocdcnkmcejjaaDoor
