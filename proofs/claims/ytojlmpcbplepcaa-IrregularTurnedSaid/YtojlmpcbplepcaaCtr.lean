/- Chapter 9: Check, Over, Turn, Contract for every list. -/
import Derived.Test.YtojlmpcbplepcaaFol3
namespace Go.Proofs.Ytojlmpcbplepcaa
open Go Go.Eng
def litB (b : Bd) (sl dl : Int) : Bd := { b with s := sl, d := dl }
def litS (s : St) (sl dl : Int) : St := { s with b := litB s.b sl dl }
def litF (F : FR) (sl dl : Int) : FR := { F with s := litS F.s sl dl }
theorem lit_self {F : FR} {sl dl : Int} (h1 : F.s.b.s = sl) (h2 : F.s.b.d = dl) : litF F sl dl = F := by
  subst h1; subst h2; rfl
def gFolL (F : Int → List Int → FR) (sl dl : Int) : List V → List Blk → Option (Bool × V × List Blk)
  | [.int .u8 d, .gs 0], [.rs _ 1 (.ints .u8 xs)] => some (okA d xs && decide ((F d xs).s.b.s = sl ∧ (F d xs).s.b.d = dl), folV (litF (F d xs) sl dl), [])
  | _, _ => none
def hTab1L (F : Int → List Int → FR) (sl dl : Int) : HTab := addH 60 (gFolL F sl dl) emptyH
theorem hTab1L_ok (sl dl : Int) : HTabOk Try.prog (hTab1L fol sl dl) := by
  refine addH_ok ?_ emptyH_ok
  intro args h c v nb hq hc
  unfold gFolL at hq
  split at hq
  · cases hq
    simp only [Bool.and_eq_true, decide_eq_true_eq] at hc
    rw [lit_self hc.2.1 hc.2.2]
    exact ⟨.of Try.func60 (by kernel_rfl), by rw [List.append_nil]; exact fol_fn _ hc.1⟩
  · cases hq
noncomputable abbrev orc1L (sl dl : Int) (T : PTab) (F : Int → List Int → FR) (LL : FuncId → Loops) : Oracle := inl Try.prog ftab T LL 100 never dom1 (hOrcP nrB (hTab1L F sl dl)) 20
theorem orc1L_ok {sl dl : Int} {T : PTab} (hT : PTabOk Try.prog T) {LL : FuncId → Loops} (hL : ∀ f, loopsOk Try.prog (LL f)) : OracleOk Try.prog (orc1L sl dl T fol LL) := inl_ok (hOrcP_ok (hTab1L_ok sl dl)) ftab_ok hT hL mixed 20
noncomputable abbrev ev1L (sl dl : Int) (T : PTab) (F : Int → List Int → FR) (L : Loops) (f : FuncId) (fn : Func) (nn : Bool) (d : Int) (xs : List Int) : Option V := evalFn Try.prog (orc1L sl dl T F plainL) L 100 f fn [.int .u8 d, .gs 0] [.rs nn 1 (.ints .u8 xs)] (fun v _ => some v)
theorem fn1L {sl dl : Int} {T : PTab} (hT : PTabOk Try.prog T) {L : Loops} (hL : loopsOk Try.prog L) {f : FuncId} {fn : Func} (hf : Try.prog.funcs[f]? = some fn) {nn : Bool} {d : Int} {xs : List Int} {v : V} (h : ev1L sl dl T fol L f fn nn d xs = some v) (hv : plainV v = true) :
    FnOK Try.prog f [.int .u8 d, .gs 0] [.rs nn 1 (.ints .u8 xs)] v [.rs nn 1 (.ints .u8 xs)] := by
  obtain ⟨v1, h1, hk, hok⟩ := evalFn_ok (orc1L_ok hT plainL_ok) mixed hf hL h
  cases hk
  exact hok.plain hv rs_ro
theorem tabO_ok : PTabOk Try.prog (tabO chk ovr) := by
  refine addTab_ok ?_ (addTab_ok ?_ (addTab_ok ?_ (addTab_ok ?_ emptyTab_ok)))
  · intro args c v h _
    unfold gCheck at h
    split at h
    · split at h
      · rename_i s hs; cases h; rw [ofVs_ok hs]; exact check_p s _
      · cases h
    · cases h
  · intro args c v h _
    unfold gOver' at h
    split at h
    · split at h
      · rename_i s hs; cases h; rw [ofVs_ok hs]; exact over_p s
      · cases h
    · cases h
  · intro args c v h _
    unfold gRight at h
    split at h
    · cases h; exact right_p _
    · cases h
  · intro args c v h _
    unfold gPartsP at h
    split at h
    · cases h; rw [← ptV_is]; exact parts_p _
    · cases h
/-! ### Check, Over, Turn -/
def checkV (F : FR) : V := .tuple [.int .i64 F.at_, .int .i64 F.e]
def overV (OV : St → Bool) (F : FR) : V := bif decide (F.e = 0) then .tuple [.bool (OV F.s), .int .i64 0] else .tuple [.bool false, .int .i64 2]
def turnV (OV : St → Bool) (F : FR) : V := bif decide (F.e = 0) then (bif OV F.s then .tuple [.int .u8 0, .int .i64 90] else .tuple [.int .u8 F.s.turn, .int .i64 0]) else .tuple [.int .u8 0, .int .i64 2]
theorem check18_eval (F : Int → List Int → FR) (CH : St → Int → Int) (OV : St → Bool) (nn : Bool) (d : Int) (xs : List Int) : ev1 (tabO CH OV) F noLoops 66 Try.f66 nn d xs = bif okA d xs then some (checkV (F d xs)) else none := by cases nn <;> kernel_rfl
theorem over22_eval (F : Int → List Int → FR) (CH : St → Int → Int) (OV : St → Bool) (nn : Bool) (d : Int) (xs : List Int) : ev1 (tabO CH OV) F noLoops 65 Try.f65 nn d xs = bif okA d xs then bif !decide ((F d xs).e = 0) then some (.tuple [.bool false, .int .i64 2]) else some (.tuple [.bool (OV (F d xs).s), .int .i64 0]) else none := by cases nn <;> kernel_rfl
theorem turn19_eval (F : Int → List Int → FR) (CH : St → Int → Int) (OV : St → Bool) (nn : Bool) (d : Int) (xs : List Int) : ev1 (tabO CH OV) F noLoops 31 Try.f31 nn d xs = bif okA d xs then bif !decide ((F d xs).e = 0) then some (.tuple [.int .u8 0, .int .i64 2]) else bif OV (F d xs).s then some (.tuple [.int .u8 0, .int .i64 90]) else some (.tuple [.int .u8 (F d xs).s.turn, .int .i64 0]) else none := by cases nn <;> kernel_rfl
theorem check18_fn (nn : Bool) {d : Int} {xs : List Int} (h : okA d xs = true) : FnOK Try.prog 66 [.int .u8 d, .gs 0] [.rs nn 1 (.ints .u8 xs)] (checkV (fol d xs)) [.rs nn 1 (.ints .u8 xs)] :=
  fn1 tabO_ok noLoops_ok Try.func66 (by rw [check18_eval, h]; rfl) rfl
theorem over22_fn (nn : Bool) {d : Int} {xs : List Int} (h : okA d xs = true) : FnOK Try.prog 65 [.int .u8 d, .gs 0] [.rs nn 1 (.ints .u8 xs)] (overV ovr (fol d xs)) [.rs nn 1 (.ints .u8 xs)] := by
  refine fn1 tabO_ok noLoops_ok Try.func65 (by rw [over22_eval, h]; unfold overV; cases decide ((fol d xs).e = 0) <;> rfl) ?_
  unfold overV; cases decide ((fol d xs).e = 0) <;> rfl
theorem turn19_fn (nn : Bool) {d : Int} {xs : List Int} (h : okA d xs = true) : FnOK Try.prog 31 [.int .u8 d, .gs 0] [.rs nn 1 (.ints .u8 xs)] (turnV ovr (fol d xs)) [.rs nn 1 (.ints .u8 xs)] := by
  refine fn1 tabO_ok noLoops_ok Try.func31 (by rw [turn19_eval, h]; unfold turnV; cases decide ((fol d xs).e = 0) <;> cases ovr (fol d xs).s <;> rfl) ?_
  unfold turnV; cases decide ((fol d xs).e = 0) <;> cases ovr (fol d xs).s <;> rfl
/-! ### Contract -/
def ctV (l d r s e : Int) : V := .tuple [.agg [.int .u8 l, .int .u8 d, .int .u8 r, .int .u8 s], .int .i64 e]
def contrV (OV : St → Bool) (F : FR) : V := bif decide (F.e = 0) then (bif OV F.s then (bif F.s.b.m then ctV F.s.b.l F.s.b.d F.s.risk (F.s.fst (kOf F.s.b.s F.s.b.d)).s 0 else ctV 0 0 0 0 0) else ctV 0 0 0 0 91) else ctV 0 0 0 0 2
end Go.Proofs.Ytojlmpcbplepcaa
