/- Chapter 10: what package irregular asks of auctions: recent calls, over, free, low, passed. -/
import Derived.Test.YtojlmpcbplepcaaLeg
import Derived.Test.YtojlmpcbplepcaaEng4
namespace Go.Proofs.Ytojlmpcbplepcaa
open Go Go.Eng
/-- The contracts of Last, Over, Check as names. -/
structure NI where
  LI : List Int → Int
  LB : List Int → Bool
  OB : Int → List Int → Bool
  OE : Int → List Int → Int
  CA : Int → List Int → Int
  CE : Int → List Int → Int
  K : Int → List Int → Bool
  KS : List Int → Bool
  MK : Int → Int → Int
def mkI (d i : Int) : Int := wr .u8 ((wr .i64 (wr .i64 d + i)).tmod 4)
def nI : NI := ⟨fun xs => (lastN xs xs.length).1, fun xs => (lastN xs xs.length).2, fun d xs => decide ((fol d xs).e = 0) && ovr (fol d xs).s, fun d xs => bif decide ((fol d xs).e = 0) then 0 else 2,
  fun d xs => (fol d xs).at_, fun d xs => (fol d xs).e, okA, smallL, mkI⟩
def iLast (N : NI) : List V → List Blk → Option (Bool × V × List Blk)
  | [.gs 0], [.rs _ 1 (.ints .u8 xs)] => some (N.KS xs, .tuple [.int .i64 (N.LI xs), .bool (N.LB xs)], [])
  | _, _ => none
def iOver (N : NI) : List V → List Blk → Option (Bool × V × List Blk)
  | [.int .u8 d, .gs 0], [.rs _ 1 (.ints .u8 xs)] => some (N.K d xs, .tuple [.bool (N.OB d xs), .int .i64 (N.OE d xs)], [])
  | _, _ => none
def iCheck (N : NI) : List V → List Blk → Option (Bool × V × List Blk)
  | [.int .u8 d, .gs 0], [.rs _ 1 (.ints .u8 xs)] => some (N.K d xs, .tuple [.int .i64 (N.CA d xs), .int .i64 (N.CE d xs)], [])
  | _, _ => none
def hTabI (N : NI) : HTab := addH 54 (iLast N) (addH 65 (iOver N) (addH 66 (iCheck N) emptyH))
theorem hTabI_ok : HTabOk Try.prog (hTabI nI) := by
  refine addH_ok ?_ (addH_ok ?_ (addH_ok ?_ emptyH_ok))
  · intro args h c v nb hq hc
    unfold iLast at hq
    split at hq
    · cases hq; exact ⟨.of Try.func54 (by kernel_rfl), by rw [List.append_nil]; exact last_fn _ hc⟩
    · cases hq
  · intro args h c v nb hq hc
    unfold iOver at hq
    split at hq
    · cases hq
      refine ⟨.of Try.func65 (by kernel_rfl), ?_⟩
      rw [List.append_nil]
      have := over22_fn (by assumption) hc
      unfold overV at this
      rename_i d _ xs
      show FnOK _ _ _ _ (.tuple [.bool (decide ((fol d xs).e = 0) && ovr (fol d xs).s), .int .i64 (bif decide ((fol d xs).e = 0) then 0 else 2)]) _
      cases he : decide ((fol d xs).e = 0) <;> (rw [he] at this; exact this)
    · cases hq
  · intro args h c v nb hq hc
    unfold iCheck at hq
    split at hq
    · cases hq; exact ⟨.of Try.func66 (by kernel_rfl), by rw [List.append_nil]; exact check18_fn _ hc⟩
    · cases hq
theorem maker_p (d i : Int) : FnPure Try.prog 56 [.int .u8 d, .int .i64 i] (.int .u8 (mkI d i)) := pure_at emptyTab_ok Try.func56 (by kernel_rfl) (show evalP emptyTab 56 Try.f56 [.int .u8 d, .int .i64 i] = some (.int .u8 (mkI d i)) by kernel_rfl) rfl rfl
def iMaker (MK : Int → Int → Int) : List V → Option (Bool × V)
  | [.int .u8 d, .int .i64 i] => some (true, .int .u8 (MK d i))
  | _ => none
def tabI (N : NI) : PTab := addTab 35 gRight (addTab 55 gPartsP (addTab 56 (iMaker N.MK) emptyTab))
theorem tabI_ok : PTabOk Try.prog (tabI nI) := by
  refine addTab_ok ?_ (addTab_ok ?_ (addTab_ok ?_ emptyTab_ok))
  · intro args c v h _
    unfold gRight at h
    split at h
    · cases h; exact right_p _
    · cases h
  · intro args c v h _
    unfold gPartsP at h
    split at h
    · cases h; rw [← ptV_is]; exact parts_p _
    · cases h
  · intro args c v h _
    unfold iMaker at h
    split at h
    · cases h; exact maker_p _ _
    · cases h
def domI : FuncId → Bool := fun f => Nat.beq f 54 || (Nat.beq f 65 || Nat.beq f 66)
def nr8 : FuncId → Nat → Option Row := fun _ _ => some (.ints .u8 [])
noncomputable abbrev orcI (N : NI) (T : PTab) (LL : FuncId → Loops) : Oracle := inl Try.prog ftab T LL 100 never domI (hOrcX nr8 (hTabI N)) 20
theorem orcI_ok {T : PTab} (hT : PTabOk Try.prog T) {LL : FuncId → Loops} (hL : ∀ f, loopsOk Try.prog (LL f)) : OracleOk Try.prog (orcI nI T LL) := inl_ok (hOrcX_ok hTabI_ok) ftab_ok hT hL mixed 20
end Go.Proofs.Ytojlmpcbplepcaa
