/- Chapter 8: the law texts: all contracts. -/
import Derived.Test.YtpehklboickdpaaDoorQR4
namespace Go.Proofs.YtpehklboickdpaaDoor
open Go Go.Eng
structure YN where
  N : NL
  RC : ByteArray → Int
  RE : ByteArray → Int
  KP : List Int → List Int → Bool
def yN : YN := ⟨L0, rdC, rdE, kpC⟩
noncomputable def gY20 (Y : YN) : List V → List Blk → Option (Bool × V × List Blk)
  | [.str s], [.glob 0 (.strs l)] => some (pB (l = textsL), .tuple [.int .u8 (Y.RC s), .int .i64 (Y.RE s)], [])
  | _, _ => none
def gY27 (Y : YN) : List V → List Blk → Option (Bool × V × List Blk)
  | [.gs 0], [.rs _ 1 (.ints .u8 xs)] => some (Y.N.tC xs, .tuple [.str (Y.N.tS xs), .int .i64 (Y.N.tE xs)], [])
  | _, _ => none
def gY28 (Y : YN) : List V → List Blk → Option (Bool × V × List Blk)
  | [.str s], [] => some (Y.N.rC s, .tuple [.gs 0, .int .i64 (Y.N.rE s)], [.grow false 5 1 (.ints .u8 (Y.N.rV s))])
  | _, _ => none
noncomputable def hTabY (Y : YN) : HTab := addH 18 (gTaN Y.N) (addH 21 (gRaN Y.N) (addH 20 (gY20 Y) (addH 24 (gSaN Y.N) (addH 27 (gY27 Y) (addH 28 (gY28 Y) emptyH)))))
theorem hTabY_ok : HTabOk Tryd.prog (hTabY yN) := by
  refine addH_ok ?_ (addH_ok ?_ (addH_ok ?_ (addH_ok ?_ (addH_ok ?_ (addH_ok ?_ emptyH_ok)))))
  · intro args h c v nb hq hc
    unfold gTaN at hq
    split at hq
    · rename_i l nn xs
      cases hq
      simp only [Bool.and_eq_true, pB_iff] at hc
      obtain ⟨rfl, h1⟩ := hc
      exact ⟨.of Tryd.func18 (by kernel_rfl), by rw [List.append_nil]; exact textall_fn nn h1⟩
    · cases hq
  · intro args h c v nb hq hc
    unfold gRaN at hq
    split at hq
    · cases hq
      simp only [Bool.and_eq_true, pB_iff] at hc
      obtain ⟨rfl, h1⟩ := hc
      exact ⟨.of Tryd.func21 (by kernel_rfl), readall_fn (of_decide_eq_true h1)⟩
    · cases hq
  · intro args h c v nb hq hc
    unfold gY20 at hq
    split at hq
    · cases hq
      rw [pB_iff] at hc
      subst hc
      exact ⟨.of Tryd.func20 (by kernel_rfl), by rw [List.append_nil]; exact read_fn _⟩
    · cases hq
  · intro args h c v nb hq hc
    unfold gSaN at hq
    split at hq
    · rename_i n1 xs n2 ys
      cases hq
      exact ⟨.of Tryd.func24 (by kernel_rfl), by rw [List.append_nil]; exact same_fn n1 n2 (of_decide_eq_true hc)⟩
    · cases hq
  · intro args h c v nb hq hc
    unfold gY27 at hq
    split at hq
    · cases hq; exact ⟨.of Tryd.func27 (by kernel_rfl), by rw [List.append_nil]; exact xtext_fn _ hc⟩
    · cases hq
  · intro args h c v nb hq hc
    unfold gY28 at hq
    split at hq
    · cases hq; exact ⟨.of Tryd.func28 (by kernel_rfl), xread_fn (of_decide_eq_true hc)⟩
    · cases hq
def tabY (Y : YN) (MB : Int → Int → Int) : PTab := addTab 29 (gRdR Y.RC Y.RE) (tabMb MB)
theorem tabY_ok : PTabOk Tryd.prog (tabY yN mbV) := by
  refine addTab_ok ?_ tabMb_ok
  intro args c v h _
  unfold gRdR at h
  split at h
  · cases h; exact rread_p _
  · cases h
def domY : FuncId → Bool := fun f => Nat.beq f 18 || (Nat.beq f 20 || (Nat.beq f 21 || (Nat.beq f 24 || (Nat.beq f 27 || (Nat.beq f 28 || (Nat.beq f 30 || Nat.beq f 31))))))
def glY : FuncId → List Nat := fun f => bif Nat.beq f 18 || (Nat.beq f 20 || Nat.beq f 21) then [0] else []
def isKp : FuncId → Bool := fun f => Nat.beq f 31
def isOv : FuncId → Bool := fun f => Nat.beq f 30
noncomputable abbrev orcY (Y : YN) (P : PTab) (LL : FuncId → Loops) : Oracle := inl Tryd.prog ftab P LL 100 never domY (orElse isKp (wholeOrc nrB (hTabWk Y.KP)) (orElse isOv (overOrcT oTab) (hOrcN glY nrB (hTabY Y)))) 20
theorem orcY_ok {P : PTab} (hP : PTabOk Tryd.prog P) {LL : FuncId → Loops} (hL : ∀ f, loopsOk Tryd.prog (LL f)) : OracleOk Tryd.prog (orcY yN P LL) := inl_ok (orElse_ok (wholeOrc_ok hTabWk_ok) (orElse_ok (overOrcT_ok oTab_ok) (hOrcN_ok hTabY_ok))) ftab_ok hP hL mixed 20
end Go.Proofs.YtpehklboickdpaaDoor
