/- Chapter 4: math/bits.TrailingZeros64 by the library's contract, which reads the table. -/
import Derived.Test.YtbocdcnkmcejjaaDoorLow
import Derived.Shelf.Spec.TrailingZeros
namespace Go.Proofs
open Go Go.Shelf
def Tryd.lays7_29_ren : Go.Shelf.Ren := ⟨fun | 29 => 40 | n => n, fun | 22 => 32 | 25 => 81 | 54 => 82 | n => n, fun | 1 => 0 | n => n⟩
theorem Tryd.lays7_29 : Go.Proofs.Lays7.n29 Tryd.prog Tryd.lays7_29_ren := {
  mixed := by kernel_rfl
  f29 := Tryd.func40.trans (congrArg some (by kernel_rfl))
  t0 := Tryd.underlying0
  a0 := Tryd.isAgg0
  z0 := Tryd.sizeOf0
  v0 := Tryd.zeroValue0
  i0 := by kernel_rfl
  t3 := Tryd.underlying3
  a3 := Tryd.isAgg3
  z3 := Tryd.sizeOf3
  v3 := Tryd.zeroValue3
  i3 := by kernel_rfl
  t4 := Tryd.underlying4
  a4 := Tryd.isAgg4
  z4 := Tryd.sizeOf4
  v4 := Tryd.zeroValue4
  i4 := by kernel_rfl
  t5 := Tryd.underlying5
  a5 := Tryd.isAgg5
  z5 := Tryd.sizeOf5
  v5 := Tryd.zeroValue5
  i5 := by kernel_rfl
  t22 := Tryd.underlying32
  a22 := Tryd.isAgg32
  z22 := Tryd.sizeOf32
  v22 := Tryd.zeroValue32
  i22 := by kernel_rfl
  t25 := Tryd.underlying81
  a25 := Tryd.isAgg81
  z25 := Tryd.sizeOf81
  v25 := Tryd.zeroValue81
  i25 := by kernel_rfl
  t54 := Tryd.underlying82
  a54 := Tryd.isAgg82
  z54 := Tryd.sizeOf82
  g1 := by kernel_rfl }
end Go.Proofs
namespace Go.Proofs.YtbocdcnkmcejjaaDoor
open Go Go.Eng
theorem bruijn_at : allN 64 (fun j => match bruijnL[j]? with | some v => eqI v (Int.ofNat (Lib.deBruijn64tab.getD j 0)) | none => false) = true := by kernel_rfl
theorem tz_fn {x : Int} (h0 : 0 ≤ x) (h1 : x < 18446744073709551616) : FnOK Tryd.prog 40 [.int .u64 x] gH (.int .i64 (Lib.ctz 64 x.toNat : Nat)) gH := by
  intro E W hh _
  obtain ⟨k1, k2, _, k4⟩ := hh.ok 0 _ rfl
  have h := Any7.bits_TrailingZeros64 Tryd.lays7_29 x.toNat (by omega) W (fun _ j hj => by
    have hj : j < 64 := hj
    have hb := allN_ok bruijn_at j hj
    cases hv : bruijnL[j]? with
    | none => rw [hv] at hb; cases hb
    | some v =>
      rw [hv] at hb
      have he := eqI_ok hb
      have := k4 j (.int .u8 v) (by simp [Row.toVs, hv])
      rw [k1, k2, Nat.zero_add] at this
      rw [show Tryd.lays7_29_ren.g 1 = 0 from rfl, this, he]
      rfl)
  rw [show ((x.toNat : Nat) : Int) = x by omega] at h
  refine h.mono ?_
  rintro e w' ⟨rfl, rfl⟩
  exact ⟨_, E, rfl, VR.mkInt, hh, Trans.refl _ _ _⟩
def gTz : List V → List Blk → Option (Bool × V × List Blk)
  | [.int .u64 x], [.glob 0 (.ints .u8 l)] => some (eqIs l bruijnL && decide (0 ≤ x ∧ x ≤ 18446744073709551615), .int .i64 (Lib.ctz 64 x.toNat : Nat), [])
  | _, _ => none
def hTabT : HTab := addH 40 gTz hTabL
def hDomT : FuncId → Bool := fun f => Nat.beq f 40 || hDomL f
def glT : FuncId → List Nat := fun f => bif Nat.beq f 40 then [0] else glA f
theorem hTabT_ok : HTabOk Tryd.prog hTabT := by
  refine addH_ok ?_ hTabL_ok
  intro args h c v nb hq hc
  unfold gTz at hq
  split at hq
  · cases hq
    rw [Bool.and_eq_true, decide_eq_true_eq] at hc
    have := eqIs_ok hc.1
    subst this
    exact ⟨.of Tryd.func40 (by kernel_rfl), tz_fn hc.2.1 (by omega)⟩
  · cases hq
noncomputable abbrev orcT (T : PTab) (LL : FuncId → Loops) : Oracle := inl Tryd.prog ftab T LL 100 never hDomT (hOrcG glT hTabT) 20
theorem orcT_ok {T : PTab} (hT : PTabOk Tryd.prog T) {LL : FuncId → Loops} (hL : ∀ f, loopsOk Tryd.prog (LL f)) : OracleOk Tryd.prog (orcT T LL) := inl_ok (hOrcG_ok hTabT_ok) ftab_ok hT hL mixed 20
def ctzI (x : Int) : Int := (Lib.ctz 64 x.toNat : Nat)
end Go.Proofs.YtbocdcnkmcejjaaDoor
