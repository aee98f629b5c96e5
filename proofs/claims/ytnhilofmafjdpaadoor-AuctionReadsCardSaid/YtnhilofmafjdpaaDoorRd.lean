/- Chapter 9: what auction.Read calls: TrimRight, cut, call.Read. -/
import Derived.Test.YtnhilofmafjdpaaDoorRB
namespace Go.Proofs.YtnhilofmafjdpaaDoor
open Go Go.Eng
def blankS : ByteArray := ⟨#[32]⟩
def trB (s : ByteArray) : ByteArray := ⟨(Lib.trimRightB s.data.toList 32).toArray⟩
theorem strEq_iff {a b : ByteArray} : strEq a b = true ↔ a = b := by
  unfold strEq
  rw [beqBs_eq]
  constructor
  · intro h
    have h2 := eq_of_beq h
    cases a; cases b
    congr 1
    exact Array.toList_inj.1 h2
  · rintro rfl; simp
def gTrim (TR : ByteArray → ByteArray) : List V → Option (Bool × V)
  | [.str s, .str c] => some (strEq c blankS && decide (lenS s ≤ 9223372036854775807), .str (TR s))
  | _ => none
def tabTr (TR : ByteArray → ByteArray) : PTab := addTab 74 (gTrim TR) emptyTab
theorem tabTr_ok : PTabOk Tryd.prog (tabTr trB) := by
  refine addTab_ok ?_ emptyTab_ok
  intro args c v h hc
  unfold gTrim at h
  split at h
  · cases h
    simp only [Bool.and_eq_true, decide_eq_true_eq, strEq_iff] at hc
    obtain ⟨rfl, hc⟩ := hc
    exact pure_of_same (.of Tryd.func74 (by kernel_rfl)) rfl rfl fun w => Tryd.strings_TrimRight_one _ 32 (by decide) w (by rw [lenS_eq]; exact hc)
  · cases h
def ckS (s : ByteArray) : Bool := decide (lenS s = 20)
/-- The cells of a line. -/
def cvS (s : ByteArray) (k : Nat) : ByteArray := bif ckS s then trB (extS s (5 * k) (5 * k + 5)) else ⟨#[]⟩
noncomputable def cutC (s : ByteArray) (l h : Nat) (Z : Option V) : Option V := bif decide (0 ≤ (l : Int) ∧ (l : Int) ≤ (h : Int) ∧ (h : Int) ≤ Int.ofNat (lenS s)) then bif strEq blankS blankS && decide (lenS (extS s l h) ≤ 9223372036854775807) then Z else none else none
theorem cut_eval (TR : ByteArray → ByteArray) (s : ByteArray) : evalP (tabTr TR) 56 Tryd.f56 [.str s] = bif !decide (Int.ofNat (lenS s) = 20) then some (.tuple [.agg [.str ⟨#[]⟩, .str ⟨#[]⟩, .str ⟨#[]⟩, .str ⟨#[]⟩], .bool false]) else
    cutC s 0 5 (cutC s 5 10 (cutC s 10 15 (cutC s 15 20 (some (.tuple [.agg [.str (TR (extS s 0 5)), .str (TR (extS s 5 10)), .str (TR (extS s 10 15)), .str (TR (extS s 15 20))], .bool true]))))) := by kernel_rfl
theorem extS_len (s : ByteArray) (l h : Nat) : lenS (extS s l h) ≤ h - l := by
  unfold lenS extS
  simp only [List.length_take]; omega
theorem cutC_ok {s : ByteArray} {l h : Nat} (hl : l ≤ h) (hh : h ≤ 20) (hs : lenS s = 20) {Z : Option V} : cutC s l h Z = Z := by
  unfold cutC
  have := extS_len s l h
  rw [decide_eq_true (show 0 ≤ (l : Int) ∧ (l : Int) ≤ (h : Int) ∧ (h : Int) ≤ Int.ofNat (lenS s) by refine ⟨by omega, by omega, ?_⟩; show (h : Int) ≤ (lenS s : Int); omega), decide_eq_true (show lenS (extS s l h) ≤ 9223372036854775807 by omega), strEq_iff.2 rfl]; rfl
theorem cut_p (s : ByteArray) : FnPure Tryd.prog 56 [.str s] (.tuple [.agg [.str (cvS s 0), .str (cvS s 1), .str (cvS s 2), .str (cvS s 3)], .bool (ckS s)]) := by
  refine pure_at tabTr_ok Tryd.func56 (by kernel_rfl) ?_ rfl rfl
  rw [cut_eval]
  unfold cvS ckS
  by_cases h : lenS s = 20
  · rw [decide_eq_true h, decide_eq_true (show Int.ofNat (lenS s) = 20 by rw [h]; rfl), cutC_ok (by omega) (by omega) h, cutC_ok (by omega) (by omega) h, cutC_ok (by omega) (by omega) h, cutC_ok (by omega) (by omega) h]; rfl
  · rw [decide_eq_false h, decide_eq_false (show ¬ Int.ofNat (lenS s) = 20 from fun e => h (by have : (lenS s : Int) = 20 := e; omega))]; rfl
def gCut (CV : ByteArray → Nat → ByteArray) (CK : ByteArray → Bool) : List V → Option (Bool × V)
  | [.str s] => some (true, .tuple [.agg [.str (CV s 0), .str (CV s 1), .str (CV s 2), .str (CV s 3)], .bool (CK s)])
  | _ => none
def tabCut (CV : ByteArray → Nat → ByteArray) (CK : ByteArray → Bool) : PTab := addTab 56 (gCut CV CK) emptyTab
theorem tabCut_ok : PTabOk Tryd.prog (tabCut cvS ckS) := by
  refine addTab_ok ?_ emptyTab_ok
  intro args c v h _
  unfold gCut at h
  split at h
  · cases h; exact cut_p _
  · cases h
/-! ### call.Read -/
def rdGo : List ByteArray → Nat → ByteArray → Option V
  | [], _, _ => some (.tuple [.int .u8 0, .int .i64 81])
  | t :: r, k, s => bif strEq t s then some (.tuple [.int .u8 (k : Int), .int .i64 0]) else rdGo r (k + 1) s
theorem read_eval (s : ByteArray) : evalFn Tryd.prog (orcC nA emptyTab plainL) noLoops 100 57 Tryd.f57 [.str s] gH (fun v _ => some v) = rdGo textsL 0 s := by kernel_rfl
/-- The call with a text. -/
def rdF : List ByteArray → Nat → ByteArray → Option Nat
  | [], _, _ => none
  | t :: r, k, s => bif strEq t s then some k else rdF r (k + 1) s
def rdC (s : ByteArray) : Int := match rdF textsL 0 s with
  | some k => (k : Int)
  | none => 0
def rdE (s : ByteArray) : Int := match rdF textsL 0 s with
  | some _ => 0
  | none => 81
theorem rdGo_eq : ∀ (l : List ByteArray) (k : Nat) (s : ByteArray), rdGo l k s = some (.tuple [.int .u8 (match rdF l k s with | some k => (k : Int) | none => 0), .int .i64 (match rdF l k s with | some _ => 0 | none => 81)])
  | [], _, _ => rfl
  | t :: r, k, s => by
    unfold rdGo rdF
    cases strEq t s with
    | true => rfl
    | false => exact rdGo_eq r (k + 1) s
theorem gH_ro : ∀ (b : Nat) blk, gH[b]? = some blk → blk.mine = false := by
  intro b blk hb
  match b, hb with
  | 0, hb => cases hb; rfl
  | _ + 1, hb => simp [gH] at hb
theorem read_fn (s : ByteArray) : FnOK Tryd.prog 57 [.str s] gH (.tuple [.int .u8 (rdC s), .int .i64 (rdE s)]) gH := by
  have key : evalFn Tryd.prog (orcC nA emptyTab plainL) noLoops 100 57 Tryd.f57 [.str s] gH (fun v _ => some v) = some (.tuple [.int .u8 (rdC s), .int .i64 (rdE s)]) := by rw [read_eval, rdGo_eq]; rfl
  obtain ⟨v1, h1, hk, hok⟩ := evalFn_ok (orcC_ok emptyTab_ok plainL_ok) mixed Tryd.func57 noLoops_ok key
  cases hk
  exact hok.plain rfl gH_ro
/-! ### the oracle of auction.Read -/
structure RN where
  CV : ByteArray → Nat → ByteArray
  CK : ByteArray → Bool
  RC : ByteArray → Int
  RE : ByteArray → Int
  N : NA
def rN : RN := ⟨cvS, ckS, rdC, rdE, nA⟩
noncomputable def gCRead (R : RN) : List V → List Blk → Option (Bool × V × List Blk)
  | [.str s], [.glob 0 (.strs l)] => some (pB (l = textsL), .tuple [.int .u8 (R.RC s), .int .i64 (R.RE s)], [])
  | _, _ => none
noncomputable def hTabQ (R : RN) : HTab := addH 57 (gCRead R) (hTabA R.N)
def domQ : FuncId → Bool := fun f => Nat.beq f 57 || domA f
def glQ : FuncId → List Nat := fun f => bif Nat.beq f 57 || (Nat.beq f 20 || Nat.beq f 13) then [0] else []
theorem hTabQ_ok : HTabOk Tryd.prog (hTabQ rN) := by
  refine addH_ok ?_ hTabA_ok
  intro args h c v nb hq hc
  unfold gCRead at hq
  split at hq
  · cases hq
    rw [pB_iff] at hc
    subst hc
    exact ⟨.of Tryd.func57 (by kernel_rfl), by rw [List.append_nil]; exact read_fn _⟩
  · cases hq
noncomputable abbrev orcQ (R : RN) (LL : FuncId → Loops) : Oracle := inl Tryd.prog ftab (tabCut R.CV R.CK) LL 100 never domQ (hOrcN glQ nrB (hTabQ R)) 20
theorem orcQ_ok {LL : FuncId → Loops} (hL : ∀ f, loopsOk Tryd.prog (LL f)) : OracleOk Tryd.prog (orcQ rN LL) := inl_ok (hOrcN_ok hTabQ_ok) ftab_ok tabCut_ok hL mixed 20
noncomputable def r1Lp : Code := loopOf 6 Tryd.f29
noncomputable def r2Lp : Code := loopOf 12 Tryd.f29
noncomputable def r3Lp : Code := loopOf 27 Tryd.f29
def strV4 : TV := .agg [.str, .str, .str, .str]
def r1T (nn : Bool) : Tm := ⟨mkS [(0, .gs 1), (2, .int .u8), (3, .nil), (4, .int .i64), (5, .int .u8), (6, .gs 2), (22, .gs 1), (23, .int .i64), (24, .int .i64)] 0 100, [.glob 0 strsT, .rs nn 1 strsT, .grow false 5 1 u8s], []⟩
def r1X (nn : Bool) : Tm := ⟨mkS [(0, .gs 1), (2, .int .u8), (3, .nil), (4, .int .i64), (5, .int .u8), (6, .gs 2)] 0 100, [.glob 0 strsT, .rs nn 1 strsT, .grow false 5 1 u8s], []⟩
def r2T (nn : Bool) : Tm := ⟨mkS [(0, .gs 1), (2, .int .u8), (3, .nil), (4, .int .i64), (5, .int .u8), (6, .gs 2), (22, .gs 1), (23, .int .i64), (24, .int .i64), (35, strV4), (36, .int .i64)] 0 100, [.glob 0 strsT, .rs nn 1 strsT, .grow false 5 1 u8s], []⟩
def r3T (nn : Bool) : Tm := ⟨mkS [(0, .gs 1), (2, .int .u8), (3, .nil), (4, .int .i64), (5, .int .u8), (6, .gs 2), (84, .gs 3), (85, .int .i64), (86, .int .i64)] 0 100, [.glob 0 strsT, .rs nn 1 strsT, .grow false 5 1 u8s, .grow false 9 1 strsT], []⟩
def r3X (nn : Bool) : Tm := ⟨mkS [(2, .int .u8), (3, .nil), (4, .int .i64), (5, .int .u8), (6, .gs 2)] 0 100, [.glob 0 strsT, .rs nn 1 strsT, .grow false 5 1 u8s], []⟩
end Go.Proofs.YtnhilofmafjdpaaDoor
