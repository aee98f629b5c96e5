/- Texts merged: Fol3, Ctr. -/
import Derived.Test.YtojlmpcbplepcaaFol2
/- Chapter 9: follow's contract; Check, Over, Turn. -/
namespace Go.Proofs.Ytojlmpcbplepcaa
open Go Go.Eng
def smallL (xs : List Int) : Bool := decide (xs.length ≤ 9223372036854775806)
def okA (d : Int) (xs : List Int) : Bool := decide (0 ≤ d) && (smallL xs && allU xs)
theorem rs_ro {nn : Bool} {row : Row} : ∀ (b : Nat) blk, ([.rs nn 1 row] : List Blk)[b]? = some blk → blk.mine = false := by
  intro b blk hb
  match b, hb with
  | 0, hb => cases hb; rfl
  | _ + 1, hb => simp at hb
def folV (F : FR) : V := .tuple [.agg F.s.vs, .int .i64 F.at_, .int .i64 F.e]
theorem foCd : codesB [(foLp, foLp)] = true := by rw [codesB_iff]; intro x hx; simp at hx; rw [hx]
theorem flw_st (xs : List Int) : ∀ (i : Nat) (s : St), (flw xs i s).e = 0 → (flw xs i s).at_ = -1 := by
  induction xs with
  | nil => intro i s _; rfl
  | cons c r ih =>
    intro i s h
    unfold flw at h ⊢
    by_cases hb : chk s c = 0
    · rw [decide_eq_true hb] at h ⊢; exact ih _ _ h
    · rw [decide_eq_false hb] at h; exact absurd h hb
theorem flw_bad (xs : List Int) : ∀ (i : Nat) (s : St), (flw xs i s).e ≠ 0 → (flw xs i s).s = st0 0 := by
  induction xs with
  | nil => intro i s h; exact absurd rfl h
  | cons c r ih =>
    intro i s h
    unfold flw at h ⊢
    by_cases hb : chk s c = 0
    · rw [decide_eq_true hb] at h ⊢; exact ih _ _ h
    · rw [decide_eq_false hb]; rfl
theorem folE_is {d : Int} {xs : List Int} (h : okA d xs = true) : folE okT flw0 d xs = some (folV (fol d xs)) := by
  simp only [okA, smallL, Bool.and_eq_true, decide_eq_true_eq] at h
  obtain ⟨h0, h1, h2⟩ := h
  unfold folE fol
  cases hd : decide (3 < d) with
  | true => rfl
  | false =>
    simp only [decide_eq_false_iff_not] at hd
    have hC : foC okT 0 0 (Int.ofNat xs.length) 0 xs (st0 d) = true := by
      simp only [foC, okT, Bool.and_eq_true, decide_eq_true_eq]
      exact ⟨⟨trivial, trivial, rfl, trivial, h1⟩, h2, h0, by show d < 4; omega⟩
    rw [foCd, hC]
    simp only [cond_false, cond_true]
    rw [show flw0 xs (st0 d) = flw xs 0 (st0 d) from rfl]
    by_cases he : (flw xs 0 (st0 d)).e = 0
    · rw [decide_eq_true he]
      have h3 := flw_st xs 0 (st0 d) he
      simp only [cond_true, folV]
      rw [he, h3]
    · rw [decide_eq_false he]
      have h3 := flw_bad xs 0 (st0 d) he
      simp only [cond_false, folV]
      rw [h3]
theorem fol_fn (nn : Bool) {d : Int} {xs : List Int} (h : okA d xs = true) : FnOK Try.prog 60 [.int .u8 d, .gs 0] [.rs nn 1 (.ints .u8 xs)] (folV (fol d xs)) [.rs nn 1 (.ints .u8 xs)] := by
  obtain ⟨v1, h1, hk, hok⟩ := evalFn_ok (orcE_ok emptyTab_ok plainL_ok) mixed Try.func60 (foL_ok nn) ((fol_eval okT flw0 nn d xs).trans (folE_is h))
  cases hk
  exact hok.plain rfl rs_ro
def gFol (F : Int → List Int → FR) : List V → List Blk → Option (Bool × V × List Blk)
  | [.int .u8 d, .gs 0], [.rs _ 1 (.ints .u8 xs)] => some (okA d xs, folV (F d xs), [])
  | _, _ => none
def hTab1 (F : Int → List Int → FR) : HTab := addH 60 (gFol F) emptyH
def dom1 : FuncId → Bool := fun f => Nat.beq f 60
def nrB : FuncId → Option Row := fun _ => some (.ints .u8 [])
theorem hTab1_ok : HTabOk Try.prog (hTab1 fol) := by
  refine addH_ok ?_ emptyH_ok
  intro args h c v nb hq hc
  unfold gFol at hq
  split at hq
  · cases hq
    exact ⟨.of Try.func60 (by kernel_rfl), by rw [List.append_nil]; exact fol_fn _ hc⟩
  · cases hq
noncomputable abbrev orc1 (T : PTab) (F : Int → List Int → FR) (LL : FuncId → Loops) : Oracle := inl Try.prog ftab T LL 100 never dom1 (hOrcP nrB (hTab1 F)) 20
theorem orc1_ok {T : PTab} (hT : PTabOk Try.prog T) {LL : FuncId → Loops} (hL : ∀ f, loopsOk Try.prog (LL f)) : OracleOk Try.prog (orc1 T fol LL) := inl_ok (hOrcP_ok hTab1_ok) ftab_ok hT hL mixed 20
noncomputable abbrev ev1 (T : PTab) (F : Int → List Int → FR) (L : Loops) (f : FuncId) (fn : Func) (nn : Bool) (d : Int) (xs : List Int) : Option V := evalFn Try.prog (orc1 T F plainL) L 100 f fn [.int .u8 d, .gs 0] [.rs nn 1 (.ints .u8 xs)] (fun v _ => some v)
theorem fn1 {T : PTab} (hT : PTabOk Try.prog T) {L : Loops} (hL : loopsOk Try.prog L) {f : FuncId} {fn : Func} (hf : Try.prog.funcs[f]? = some fn) {nn : Bool} {d : Int} {xs : List Int} {v : V} (h : ev1 T fol L f fn nn d xs = some v) (hv : plainV v = true) :
    FnOK Try.prog f [.int .u8 d, .gs 0] [.rs nn 1 (.ints .u8 xs)] v [.rs nn 1 (.ints .u8 xs)] := by
  obtain ⟨v1, h1, hk, hok⟩ := evalFn_ok (orc1_ok hT plainL_ok) mixed hf hL h
  cases hk
  exact hok.plain hv rs_ro
def tabO (CH : St → Int → Int) (OV : St → Bool) : PTab := addTab 62 (gCheck CH) (addTab 61 (gOver' OV) (addTab 35 gRight (addTab 55 gPartsP emptyTab)))
end Go.Proofs.Ytojlmpcbplepcaa

/- Chapter 9: Check, Over, Turn, Contract for every list. -/
namespace Go.Proofs.Ytojlmpcbplepcaa
open Go Go.Eng
def litB (b : Bd) (sl dl : Int) : Bd := { b with s := sl, d := dl }
def litS (s : St) (sl dl : Int) : St := { s with b := litB s.b sl dl }
def litF (F : FR) (sl dl : Int) : FR := { F with s := litS F.s sl dl }
theorem lit_self {F : FR} {sl dl : Int} (h1 : F.s.b.s = sl) (h2 : F.s.b.d = dl) : litF F sl dl = F := by
  subst h1; subst h2; rfl
def gFolL (F : Int → List Int → FR) (sl dl : Int) : List V → List Blk → Option (Bool × V × List Blk)
  | [.int .u8 d, .gs 0], [.rs _ 1 (.ints .u8 xs)] => some (okA d xs && decide ((F d xs).s.b.s = sl ∧ (F d xs).s.b.d = dl), folV (litF (F d xs) sl dl), [])
  | _, _ => none
def hTab1L (F : Int → List Int → FR) (sl dl : Int) : HTab := addH 60 (gFolL F sl dl) emptyH
theorem hTab1L_ok (sl dl : Int) : HTabOk Try.prog (hTab1L fol sl dl) := by
  refine addH_ok ?_ emptyH_ok
  intro args h c v nb hq hc
  unfold gFolL at hq
  split at hq
  · cases hq
    simp only [Bool.and_eq_true, decide_eq_true_eq] at hc
    rw [lit_self hc.2.1 hc.2.2]
    exact ⟨.of Try.func60 (by kernel_rfl), by rw [List.append_nil]; exact fol_fn _ hc.1⟩
  · cases hq
noncomputable abbrev orc1L (sl dl : Int) (T : PTab) (F : Int → List Int → FR) (LL : FuncId → Loops) : Oracle := inl Try.prog ftab T LL 100 never dom1 (hOrcP nrB (hTab1L F sl dl)) 20
theorem orc1L_ok {sl dl : Int} {T : PTab} (hT : PTabOk Try.prog T) {LL : FuncId → Loops} (hL : ∀ f, loopsOk Try.prog (LL f)) : OracleOk Try.prog (orc1L sl dl T fol LL) := inl_ok (hOrcP_ok (hTab1L_ok sl dl)) ftab_ok hT hL mixed 20
noncomputable abbrev ev1L (sl dl : Int) (T : PTab) (F : Int → List Int → FR) (L : Loops) (f : FuncId) (fn : Func) (nn : Bool) (d : Int) (xs : List Int) : Option V := evalFn Try.prog (orc1L sl dl T F plainL) L 100 f fn [.int .u8 d, .gs 0] [.rs nn 1 (.ints .u8 xs)] (fun v _ => some v)
theorem fn1L {sl dl : Int} {T : PTab} (hT : PTabOk Try.prog T) {L : Loops} (hL : loopsOk Try.prog L) {f : FuncId} {fn : Func} (hf : Try.prog.funcs[f]? = some fn) {nn : Bool} {d : Int} {xs : List Int} {v : V} (h : ev1L sl dl T fol L f fn nn d xs = some v) (hv : plainV v = true) :
    FnOK Try.prog f [.int .u8 d, .gs 0] [.rs nn 1 (.ints .u8 xs)] v [.rs nn 1 (.ints .u8 xs)] := by
  obtain ⟨v1, h1, hk, hok⟩ := evalFn_ok (orc1L_ok hT plainL_ok) mixed hf hL h
  cases hk
  exact hok.plain hv rs_ro
theorem tabO_ok : PTabOk Try.prog (tabO chk ovr) := by
  refine addTab_ok ?_ (addTab_ok ?_ (addTab_ok ?_ (addTab_ok ?_ emptyTab_ok)))
  · intro args c v h _
    unfold gCheck at h
    split at h
    · split at h
      · rename_i s hs; cases h; rw [ofVs_ok hs]; exact check_p s _
      · cases h
    · cases h
  · intro args c v h _
    unfold gOver' at h
    split at h
    · split at h
      · rename_i s hs; cases h; rw [ofVs_ok hs]; exact over_p s
      · cases h
    · cases h
  · intro args c v h _
    unfold gRight at h
    split at h
    · cases h; exact right_p _
    · cases h
  · intro args c v h _
    unfold gPartsP at h
    split at h
    · cases h; rw [← ptV_is]; exact parts_p _
    · cases h
/-! ### Check, Over, Turn -/
def checkV (F : FR) : V := .tuple [.int .i64 F.at_, .int .i64 F.e]
def overV (OV : St → Bool) (F : FR) : V := bif decide (F.e = 0) then .tuple [.bool (OV F.s), .int .i64 0] else .tuple [.bool false, .int .i64 2]
def turnV (OV : St → Bool) (F : FR) : V := bif decide (F.e = 0) then (bif OV F.s then .tuple [.int .u8 0, .int .i64 90] else .tuple [.int .u8 F.s.turn, .int .i64 0]) else .tuple [.int .u8 0, .int .i64 2]
theorem check18_eval (F : Int → List Int → FR) (CH : St → Int → Int) (OV : St → Bool) (nn : Bool) (d : Int) (xs : List Int) : ev1 (tabO CH OV) F noLoops 66 Try.f66 nn d xs = bif okA d xs then some (checkV (F d xs)) else none := by cases nn <;> kernel_rfl
theorem over22_eval (F : Int → List Int → FR) (CH : St → Int → Int) (OV : St → Bool) (nn : Bool) (d : Int) (xs : List Int) : ev1 (tabO CH OV) F noLoops 65 Try.f65 nn d xs = bif okA d xs then bif !decide ((F d xs).e = 0) then some (.tuple [.bool false, .int .i64 2]) else some (.tuple [.bool (OV (F d xs).s), .int .i64 0]) else none := by cases nn <;> kernel_rfl
theorem turn19_eval (F : Int → List Int → FR) (CH : St → Int → Int) (OV : St → Bool) (nn : Bool) (d : Int) (xs : List Int) : ev1 (tabO CH OV) F noLoops 31 Try.f31 nn d xs = bif okA d xs then bif !decide ((F d xs).e = 0) then some (.tuple [.int .u8 0, .int .i64 2]) else bif OV (F d xs).s then some (.tuple [.int .u8 0, .int .i64 90]) else some (.tuple [.int .u8 (F d xs).s.turn, .int .i64 0]) else none := by cases nn <;> kernel_rfl
theorem check18_fn (nn : Bool) {d : Int} {xs : List Int} (h : okA d xs = true) : FnOK Try.prog 66 [.int .u8 d, .gs 0] [.rs nn 1 (.ints .u8 xs)] (checkV (fol d xs)) [.rs nn 1 (.ints .u8 xs)] :=
  fn1 tabO_ok noLoops_ok Try.func66 (by rw [check18_eval, h]; rfl) rfl
theorem over22_fn (nn : Bool) {d : Int} {xs : List Int} (h : okA d xs = true) : FnOK Try.prog 65 [.int .u8 d, .gs 0] [.rs nn 1 (.ints .u8 xs)] (overV ovr (fol d xs)) [.rs nn 1 (.ints .u8 xs)] := by
  refine fn1 tabO_ok noLoops_ok Try.func65 (by rw [over22_eval, h]; unfold overV; cases decide ((fol d xs).e = 0) <;> rfl) ?_
  unfold overV; cases decide ((fol d xs).e = 0) <;> rfl
theorem turn19_fn (nn : Bool) {d : Int} {xs : List Int} (h : okA d xs = true) : FnOK Try.prog 31 [.int .u8 d, .gs 0] [.rs nn 1 (.ints .u8 xs)] (turnV ovr (fol d xs)) [.rs nn 1 (.ints .u8 xs)] := by
  refine fn1 tabO_ok noLoops_ok Try.func31 (by rw [turn19_eval, h]; unfold turnV; cases decide ((fol d xs).e = 0) <;> cases ovr (fol d xs).s <;> rfl) ?_
  unfold turnV; cases decide ((fol d xs).e = 0) <;> cases ovr (fol d xs).s <;> rfl
/-! ### Contract -/
def ctV (l d r s e : Int) : V := .tuple [.agg [.int .u8 l, .int .u8 d, .int .u8 r, .int .u8 s], .int .i64 e]
def contrV (OV : St → Bool) (F : FR) : V := bif decide (F.e = 0) then (bif OV F.s then (bif F.s.b.m then ctV F.s.b.l F.s.b.d F.s.risk (F.s.fst (kOf F.s.b.s F.s.b.d)).s 0 else ctV 0 0 0 0 0) else ctV 0 0 0 0 91) else ctV 0 0 0 0 2
end Go.Proofs.Ytojlmpcbplepcaa
