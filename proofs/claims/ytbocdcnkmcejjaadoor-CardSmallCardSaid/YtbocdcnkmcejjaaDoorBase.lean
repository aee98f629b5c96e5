/- Chapter 4: the program, and what of the library is known by its contract. -/
import Derived.Test.YtbocdcnkmcejjaaDoorEng3
import Derived.Test.YtbocdcnkmcejjaaDoorShelf
import Derived.Test.YtbocdcnkmcejjaaDoorRows
namespace Go.Proofs.YtbocdcnkmcejjaaDoor
open Go Go.Eng

noncomputable def ftab : FTab := fun i => Tryd.prog.funcs[i]?
theorem ftab_ok : FTabOk Tryd.prog ftab := fun _ _ h => h
theorem mixed : Tryd.prog.follows .mixedOrders = true := by kernel_rfl
def never : FuncId → Bool := fun _ => false
def plainL : FuncId → Loops := fun _ => noLoops
theorem plainL_ok : ∀ f, loopsOk Tryd.prog (plainL f) := fun _ => noLoops_ok

def idxI (s : ByteArray) (c : Int) : Int := Lib.indexByte s.data.toList c.toNat.toUInt8
def gIdx : List V → Option (Bool × V)
  | [.str s, .int .u8 c] => some (true, .int .i64 (idxI s c))
  | _ => none
def cntI (s : ByteArray) (c : UInt8) : Int := Lib.countByte s.data.toList c
def gCount : List V → Option (Bool × V)
  | [.str s, .str ⟨⟨[c]⟩⟩] => some (true, .int .i64 (cntI s c))
  | _ => none
def lenI (x : Int) : Int := Lib.bitLen x.toNat
def gLen : List V → Option (Bool × V)
  | [.int .u64 x] => some (decide (0 ≤ x ∧ x ≤ 18446744073709551615), .int .i64 (lenI x))
  | _ => none
def tabS : PTab := addTab 38 gLen (addTab 49 gCount (addTab 34 gIdx (addTab 52 gIdx emptyTab)))
theorem tabS_ok : PTabOk Tryd.prog tabS := by
  refine addTab_ok ?_ (addTab_ok ?_ (addTab_ok ?_ (addTab_ok ?_ emptyTab_ok)))
  · intro args c v h hc
    unfold gLen at h
    split at h
    · cases h
      simp only [decide_eq_true_eq] at hc
      exact pure_of_same (.of Tryd.func38 (by kernel_rfl)) rfl rfl fun w => Tryd.bits_Len64 _ w hc.1 hc.2
    · cases h
  · intro args c v h _
    unfold gCount at h
    split at h
    · cases h
      exact pure_of_same (.of Tryd.func49 (by kernel_rfl)) rfl rfl fun w => Tryd.strings_Count_one _ _ w
    · cases h
  · intro args c v h _
    unfold gIdx at h
    split at h
    · cases h
      exact pure_of_same (.of Tryd.func34 (by kernel_rfl)) rfl rfl fun w => Tryd.strings_IndexByte _ _ w
    · cases h
  · intro args c v h _
    unfold gIdx at h
    split at h
    · cases h
      exact pure_of_same (.of Tryd.func52 (by kernel_rfl)) rfl rfl fun w => Tryd.stringslite_IndexByte _ _ w
    · cases h
noncomputable abbrev evalP (T : PTab) (f : FuncId) (fn : Func) (args : List V) : Option V := evalFn Tryd.prog (inl Tryd.prog ftab T plainL 100 never never (oracleOf emptyTab) 20) noLoops 100 f fn args [] (fun v _ => some v)
theorem pure_at {T : PTab} (hT : PTabOk Tryd.prog T) {f : FuncId} {fn : Func} {args : List V} {v : V} (hf : Tryd.prog.funcs[f]? = some fn) (hb : enterB fn = true)
    (h : evalP T f fn args = some v) (ha : plainVs args = true) (hv : plainV v = true) : FnPure Tryd.prog f args v :=
  fnPure_of_eval (inl_ok (oracleOf_ok emptyTab_ok) ftab_ok hT plainL_ok mixed 20) mixed hf hb noLoops_ok h ha hv
def suitI (c : Int) : Int := bif decide (c < 52) then wr .u8 (c.tdiv 13) else 0
def rankI (c : Int) : Int := bif decide (c < 52) then c.tmod 13 else 0
theorem suit_eval (c : Int) : evalP tabS 14 Tryd.f14 [.int .u8 c] = bif !decide (c < 52) then some (.int .u8 0) else some (.int .u8 (wr .u8 (c.tdiv 13))) := by kernel_rfl
theorem rank_eval (c : Int) : evalP tabS 15 Tryd.f15 [.int .u8 c] = bif !decide (c < 52) then some (.int .u8 0) else some (.int .u8 (c.tmod 13)) := by kernel_rfl
def gSuit : List V → Option (Bool × V)
  | [.int .u8 c] => some (true, .int .u8 (suitI c))
  | _ => none
def gRank : List V → Option (Bool × V)
  | [.int .u8 c] => some (true, .int .u8 (rankI c))
  | _ => none
def tabP : PTab := addTab 15 gRank (addTab 14 gSuit tabS)
theorem tabP_ok : PTabOk Tryd.prog tabP := by
  refine addTab_ok ?_ (addTab_ok ?_ tabS_ok)
  · intro args c v h _
    unfold gRank at h
    split at h
    · cases h
      refine pure_at tabS_ok Tryd.func15 (by kernel_rfl) ?_ rfl rfl
      rw [rank_eval]; unfold rankI
      rename_i c _; cases decide (c < 52) <;> rfl
    · cases h
  · intro args c v h _
    unfold gSuit at h
    split at h
    · cases h
      refine pure_at tabS_ok Tryd.func14 (by kernel_rfl) ?_ rfl rfl
      rw [suit_eval]; unfold suitI
      rename_i c _; cases decide (c < 52) <;> rfl
    · cases h
def gJoin : List V → List Blk → Option (Bool × V × List Blk)
  | [.gs 0, .str sep], [.rs _ 1 (.strs xs)] => some (decide (xs.length ≤ 140737488355328) && decide (joinLen xs sep ≤ 140737488355328), .str (joinS xs sep), [])
  | _, _ => none
def hTabS : HTab := addH 36 gJoin emptyH
def hDomS : FuncId → Bool := fun f => Nat.beq f 36
theorem hTabS_ok : HTabOk Tryd.prog hTabS := by
  refine addH_ok ?_ emptyH_ok
  intro args h c v nb hq hc
  unfold gJoin at hq
  split at hq
  · cases hq
    simp only [Bool.and_eq_true, decide_eq_true_eq] at hc
    exact ⟨.of Tryd.func36 (by kernel_rfl), by rw [List.append_nil]; exact join_fn Tryd.strings_Join Tryd.strings_Join_none hc.1 hc.2⟩
  · cases hq
noncomputable abbrev orcS (T : PTab) (LL : FuncId → Loops) : Oracle := inl Tryd.prog ftab T LL 100 never hDomS (hOrc hTabS) 20
theorem orcS_ok {T : PTab} (hT : PTabOk Tryd.prog T) {LL : FuncId → Loops} (hL : ∀ f, loopsOk Tryd.prog (LL f)) : OracleOk Tryd.prog (orcS T LL) := inl_ok (hOrc_ok hTabS_ok) ftab_ok hT hL mixed 20
/-! ### the table of the library that is read -/
def bruijnL : List Int := [0, 1, 56, 2, 57, 49, 28, 3, 61, 58, 42, 50, 38, 29, 17, 4, 62, 47, 59, 36, 45, 43, 51, 22, 53, 39, 33, 30, 24, 18, 12, 5, 63, 55, 48, 27, 60, 41, 37, 16, 46, 35, 44, 21, 52, 32, 23, 11, 54, 26, 40, 15, 34, 20, 31, 10, 25, 14, 19, 9, 13, 8, 7, 6]
def gH : List Blk := [.glob 0 (.ints .u8 bruijnL)]
end Go.Proofs.YtbocdcnkmcejjaaDoor
