/- Chapter 9: the helpers as contracts beside the others. -/
import Derived.Test.YtnhilofmafjdpaaDoorKit2
namespace Go.Proofs.YtnhilofmafjdpaaDoor
open Go Go.Eng
structure NK where
  EQ : List Int → List Int → Bool
  ES : List ByteArray → List ByteArray → Bool
  IX : Int → List Int → Int
  KL : List Int → Bool
  KB : List ByteArray → Bool
  MK : Int → List Int → Bool
  MD : Int → List Int → Bool → List Int
  N : NA
def lenB (xs : List ByteArray) : Bool := decide (xs.length ≤ 1000000)
def nK : NK := ⟨eqI, eqS, fun c xs => idxR c xs 0, lenT, lenB, mK, made, nA⟩
def gSb (K : NK) : List V → List Blk → Option (Bool × V × List Blk)
  | [.gs 0, .gs 1], [.rs _ 1 (.ints .u8 xs), .rs _ 1 (.ints .u8 ys)] => some (K.KL xs, .bool (K.EQ xs ys), [])
  | _, _ => none
def gSs (K : NK) : List V → List Blk → Option (Bool × V × List Blk)
  | [.gs 0, .gs 1], [.rs _ 1 (.strs xs), .rs _ 1 (.strs ys)] => some (K.KB xs, .bool (K.ES xs ys), [])
  | _, _ => none
def gIx (K : NK) : List V → List Blk → Option (Bool × V × List Blk)
  | [.gs 0, .int .u8 c], [.rs _ 1 (.ints .u8 xs)] => some (K.KL xs, .int .i64 (K.IX c xs), [])
  | _, _ => none
def gCl (K : NK) : List V → List Blk → Option (Bool × V × List Blk)
  | [.gs 0], [.rs _ 1 (.ints .u8 xs)] => some (K.KL xs, .gs 1, [.grow false 5 1 (.ints .u8 xs)])
  | _, _ => none
noncomputable def hTabK (K : NK) : HTab := addH 30 (gSb K) (addH 34 (gSs K) (addH 51 (gIx K) (addH 17 (gCl K) (hTabM K.MK K.MD K.N))))
def domK : FuncId → Bool := fun f => Nat.beq f 30 || (Nat.beq f 34 || (Nat.beq f 51 || (Nat.beq f 17 || domM f)))
def nrK : FuncId → Option Row := fun f => bif Nat.beq f 34 then some (.strs []) else some (.ints .u8 [])
theorem hTabK_ok : HTabOk Tryd.prog (hTabK nK) := by
  refine addH_ok ?_ (addH_ok ?_ (addH_ok ?_ (addH_ok ?_ hTabM_ok)))
  · intro args h c v nb hq hc
    unfold gSb at hq
    split at hq
    · cases hq; exact ⟨.of Tryd.func30 (by kernel_rfl), by rw [List.append_nil]; exact sb_fn _ _ hc⟩
    · cases hq
  · intro args h c v nb hq hc
    unfold gSs at hq
    split at hq
    · cases hq
      have hc : lenB _ = true := hc
      simp only [lenB, decide_eq_true_eq] at hc
      exact ⟨.of Tryd.func34 (by kernel_rfl), by rw [List.append_nil]; exact ss_fn _ _ hc⟩
    · cases hq
  · intro args h c v nb hq hc
    unfold gIx at hq
    split at hq
    · cases hq; exact ⟨.of Tryd.func51 (by kernel_rfl), by rw [List.append_nil]; exact ix_fn _ hc⟩
    · cases hq
  · intro args h c v nb hq hc
    unfold gCl at hq
    split at hq
    · cases hq; exact ⟨.of Tryd.func17 (by kernel_rfl), clone_fn _ hc⟩
    · cases hq
def isCl : FuncId → Bool := fun f => Nat.beq f 17
noncomputable abbrev orcK (K : NK) (T : PTab) (LL : FuncId → Loops) : Oracle := inl Tryd.prog ftab T LL 100 never domK (orElse isCl (hOrcP nrK (hTabK K)) (hOrcN glA nrK (hTabK K))) 20
theorem orcK_ok {T : PTab} (hT : PTabOk Tryd.prog T) {LL : FuncId → Loops} (hL : ∀ f, loopsOk Tryd.prog (LL f)) : OracleOk Tryd.prog (orcK nK T LL) := inl_ok (orElse_ok (hOrcP_ok hTabK_ok) (hOrcN_ok hTabK_ok)) ftab_ok hT hL mixed 20
/-! ### AuctionLegal: its loop -/
noncomputable def lwLp : Code := loopOf 6 Tryd.f7
def lwT (nn : Bool) : Tm := ⟨mkS [(6, .bool), (7, .int .u8), (8, .gs 2), (9, .gs 3), (10, .int .i64), (29, .int .i64)] 0 84, [.glob 0 strsT, .rs nn 1 u8s, .grow false 5 1 u8s, .grow false 5 1 u8s], []⟩
def lwX (nn : Bool) : Tm := ⟨mkS [(6, .bool), (9, .gs 2), (10, .int .i64)] 0 84, [.glob 0 strsT, .rs nn 1 u8s, .grow false 5 1 u8s], []⟩
end Go.Proofs.YtnhilofmafjdpaaDoor
