/- Chapter 8: the program, and what of the library is known by its contract. -/
import Derived.Test.YtpehklboickdpaaDoorEng4
import Derived.Test.YtpehklboickdpaaDoorShelf
import Derived.Test.YtpehklboickdpaaDoorRows
namespace Go.Proofs.YtpehklboickdpaaDoor
open Go Go.Eng

noncomputable def ftab : FTab := fun i => Tryd.prog.funcs[i]?
theorem ftab_ok : FTabOk Tryd.prog ftab := fun _ _ h => h
theorem mixed : Tryd.prog.follows .mixedOrders = true := by kernel_rfl
def never : FuncId → Bool := fun _ => false
def plainL : FuncId → Loops := fun _ => noLoops
theorem plainL_ok : ∀ f, loopsOk Tryd.prog (plainL f) := fun _ => noLoops_ok

def idxI (s : ByteArray) (c : Int) : Int := Lib.indexByte s.data.toList c.toNat.toUInt8
def gIdx : List V → Option (Bool × V)
  | [.str s, .int .u8 c] => some (true, .int .i64 (idxI s c))
  | _ => none
def tabS : PTab := addTab 73 gIdx emptyTab
theorem tabS_ok : PTabOk Tryd.prog tabS := by
  refine addTab_ok ?_ emptyTab_ok
  intro args c v h _
  unfold gIdx at h
  split at h
  · cases h
    exact pure_of_same (.of Tryd.func73 (by kernel_rfl)) rfl rfl fun w => Tryd.stringslite_IndexByte _ _ w
  · cases h
def gJoin : List V → List Blk → Option (Bool × V × List Blk)
  | [.gs 0, .str sep], [.rs _ 1 (.strs xs)] => some (decide (xs.length ≤ 140737488355328) && decide (joinLen xs sep ≤ 140737488355328), .str (joinS xs sep), [])
  | _, _ => none
def hTabS : HTab := addH 38 gJoin emptyH
def hDomS : FuncId → Bool := fun f => Nat.beq f 38
theorem hTabS_ok : HTabOk Tryd.prog hTabS := by
  refine addH_ok ?_ emptyH_ok
  intro args h c v nb hq hc
  unfold gJoin at hq
  split at hq
  · cases hq
    simp only [Bool.and_eq_true, decide_eq_true_eq] at hc
    exact ⟨.of Tryd.func38 (by kernel_rfl), by rw [List.append_nil]; exact join_fn Tryd.strings_Join Tryd.strings_Join_none hc.1 hc.2⟩
  · cases hq
noncomputable abbrev orcS (T : PTab) (LL : FuncId → Loops) : Oracle := inl Tryd.prog ftab T LL 100 never hDomS (hOrc hTabS) 20
theorem orcS_ok {T : PTab} (hT : PTabOk Tryd.prog T) {LL : FuncId → Loops} (hL : ∀ f, loopsOk Tryd.prog (LL f)) : OracleOk Tryd.prog (orcS T LL) := inl_ok (hOrc_ok hTabS_ok) ftab_ok hT hL mixed 20
end Go.Proofs.YtpehklboickdpaaDoor
