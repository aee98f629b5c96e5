/- Chapter 8: the law CallSmall: tells as a contract; the loop over the second number. -/
import Derived.Test.YtpehklboickdpaaDoorCs
namespace Go.Proofs.YtpehklboickdpaaDoor
open Go Go.Eng
theorem tells_eval (c d : Int) : lawT tabT plainL 16 Tryd.f16 [.int .u8 c, .int .u8 d] =
    bif decide (0 ≤ d) then bif inR c then bif pB (textsL = textsL ∧ 0 ≤ c) then bif inR c then bif inR c && decide (0 ≤ d) then bif inR c && inR d then
      bif (bif decide (c ≤ 37) then decide (wr .i64 c < 38) else !decide (wr .i64 c < 38)) then
      bif decide (bidV c d = bidV c d) then bif decide (pl c = pl c) then bif decide (pd c = pd c) then bif (bif isB c then isB c else !isB c) then
      bif beqBs (rtx c).data.toList (rtx c).data.toList then bif decide (chV c d = chV c d) then bif decide (juV c d = juV c d) then bif decide (bidE c d = bidE c d) then
      bif decide (txE c = txE c) then bif decide (chE c d = chE c d) then some (.bool (decide (juE c d = juE c d)))
      else fV else fV else fV else fV else fV else fV else fV else fV else fV else fV else fV
    else none else none else none else none else none else none := by kernel_rfl
theorem tells_true {c d : Int} (hc : 0 ≤ c ∧ c < 256) (hd : 0 ≤ d ∧ d < 256) : lawT tabT plainL 16 Tryd.f16 [.int .u8 c, .int .u8 d] = some (.bool true) := by
  have b : ∀ l : List UInt8, beqBs l l = true := fun l => by
    induction l with
    | nil => rfl
    | cons x r ih => simp [beqBs, ih]
  rw [tells_eval, inR_true hc.1 hc.2, inR_true hd.1 hd.2, pB_iff.2 ⟨rfl, hc.1⟩, b, wr64c (by omega) (by omega)]
  by_cases h : c ≤ 37
  · simp [h, hd.1, show c < 38 by omega]
  · simp [h, hd.1, show ¬ c < 38 by omega]
theorem tells_fn {c d : Int} (hc : 0 ≤ c ∧ c < 256) (hd : 0 ≤ d ∧ d < 256) : FnOK Tryd.prog 16 [.int .u8 c, .int .u8 d] gH (.bool true) gH := by
  obtain ⟨v1, e1, hk, hok⟩ := evalFn_ok (orcT_ok tabT_ok plainL_ok) mixed Tryd.func16 (plainL_ok 16) (tells_true hc hd)
  cases hk
  exact hok.plain rfl gH_ro
noncomputable def gTl16 (T : Int → Int → Bool) : List V → List Blk → Option (Bool × V × List Blk)
  | [.int .u8 c, .int .u8 d], [.glob 0 (.strs l)] => some (pB (l = textsL) && T c d, .bool true, [])
  | _, _ => none
structure CS where
  TL : Int → Int → Bool
  TC : List Int → ByteArray → Bool
  RC : ByteArray → Int → Bool
  RV : ByteArray → Int → ByteArray
def tlC (c d : Int) : Bool := decide ((0 ≤ c ∧ c < 256) ∧ 0 ≤ d ∧ d < 256)
def gRep (X : CS) : List V → Option (Bool × V)
  | [.str s, .int .i64 n] => some (X.RC s n, .str (X.RV s n))
  | _ => none
def tabRp (X : CS) : PTab := addTab 22 (gRep X) emptyTab
noncomputable def hTab8 (X : CS) : HTab := addH 16 (gTl16 X.TL) (addH 10 (gTxs X.TC) (addH 11 gAwake emptyH))
def dom8 : FuncId → Bool := fun f => Nat.beq f 16 || (Nat.beq f 10 || Nat.beq f 11)
def gl8 : FuncId → List Nat := fun _ => [0]
noncomputable abbrev orc8 (X : CS) (LL : FuncId → Loops) : Oracle := inl Tryd.prog ftab (tabRp X) LL 100 never dom8 (hOrcN gl8 nrB (hTab8 X)) 20
noncomputable def k1Lp : Code := loopOf 2 Tryd.f8
noncomputable def k2Lp : Code := loopOf 5 Tryd.f8
def k1T : Tm := ⟨mkS [(1, .int .i64)] 0 116, [.glob 0 .strs], []⟩
def k1X : Tm := ⟨mkS [] 0 116, [.glob 0 .strs], []⟩
def k2T : Tm := ⟨mkS [(1, .int .i64), (2, .int .i64)] 0 116, [.glob 0 .strs], []⟩
noncomputable def k2Z (X : CS) (c d : Int) (tl : List ByteArray) : RT := bif pB (tl = textsL) && X.TC [wr .u8 c] (bytesOf [wr .u8 c, wr .u8 d]) then some (.normal, [.i c, .i (wr .i64 (d + 1)), .ss tl], []) else none
theorem k2_round (X : CS) (rd : Option Nat) (c d : Int) (tl : List ByteArray) : roundT Tryd.prog (orc8 X plainL) noLoops 100 1 rd 8 k2Lp k2T k1T [.i c, .i d, .ss tl] =
    bif decide (d < 256) then bif decide (c < 45) then bif pB (tl = textsL) && X.TL (wr .u8 c) (wr .u8 d) then k2Z X c d tl else none else bif decide (d < 45) then bif pB (tl = textsL) && X.TL (wr .u8 c) (wr .u8 d) then k2Z X c d tl else none else k2Z X c d tl
    else some (.exit 2, [.i c, .ss tl], []) := by kernel_rfl
end Go.Proofs.YtpehklboickdpaaDoor
