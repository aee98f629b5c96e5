/- Chapter 9: Table: its loops. -/
import Derived.Test.YtnhilofmafjdpaaDoorLeg
import Derived.Test.YtnhilofmafjdpaaDoorLine
namespace Go.Proofs.YtnhilofmafjdpaaDoor
open Go Go.Eng
def textsL : List ByteArray := [⟨#[80]⟩, ⟨#[88]⟩, ⟨#[88, 88]⟩, ⟨#[49, 67]⟩, ⟨#[49, 68]⟩, ⟨#[49, 72]⟩, ⟨#[49, 83]⟩, ⟨#[49, 78, 84]⟩, ⟨#[50, 67]⟩, ⟨#[50, 68]⟩, ⟨#[50, 72]⟩, ⟨#[50, 83]⟩, ⟨#[50, 78, 84]⟩, ⟨#[51, 67]⟩, ⟨#[51, 68]⟩, ⟨#[51, 72]⟩, ⟨#[51, 83]⟩, ⟨#[51, 78, 84]⟩, ⟨#[52, 67]⟩, ⟨#[52, 68]⟩, ⟨#[52, 72]⟩, ⟨#[52, 83]⟩, ⟨#[52, 78, 84]⟩, ⟨#[53, 67]⟩, ⟨#[53, 68]⟩, ⟨#[53, 72]⟩, ⟨#[53, 83]⟩, ⟨#[53, 78, 84]⟩, ⟨#[54, 67]⟩, ⟨#[54, 68]⟩, ⟨#[54, 72]⟩, ⟨#[54, 83]⟩, ⟨#[54, 78, 84]⟩, ⟨#[55, 67]⟩, ⟨#[55, 68]⟩, ⟨#[55, 72]⟩, ⟨#[55, 83]⟩, ⟨#[55, 78, 84]⟩]
def lineS (a b c d : ByteArray) : ByteArray := ⟨(cellL a ++ cellL b ++ cellL c ++ cellL d).toArray⟩
def gLine (LN : ByteArray → ByteArray → ByteArray → ByteArray → ByteArray) : List V → Option (Bool × V)
  | [.agg [.str a, .str b, .str c, .str d]] => some (decide (a.size ≤ 5 ∧ b.size ≤ 5 ∧ c.size ≤ 5 ∧ d.size ≤ 5), .str (LN a b c d))
  | _ => none
def tabT (CH : St → Int → Int) (OV : St → Bool) (LN : ByteArray → ByteArray → ByteArray → ByteArray → ByteArray) : PTab := addTab 48 (gLine LN) (tabO CH OV)
theorem tabT_ok : PTabOk Tryd.prog (tabT chk ovr lineS) := by
  refine addTab_ok ?_ tabO_ok
  intro args c v h hc
  unfold gLine at h
  split at h
  · cases h
    simp only [decide_eq_true_eq] at hc
    exact pure_of_below (.of Tryd.func48 (by kernel_rfl)) rfl rfl fun w => line_p _ _ _ _ w hc.1 hc.2.1 hc.2.2.1 hc.2.2.2
  · cases h
def strsT : TR := .strs
noncomputable def t1Lp : Code := loopOf 6 Tryd.f20
noncomputable def t2Lp : Code := loopOf 10 Tryd.f20
noncomputable def t3Lp : Code := loopOf 19 Tryd.f20
def t1T (nn : Bool) : Tm := ⟨mkS [(1, .gs 1), (6, .ptr 2 0), (9, .gs 3), (30, .int .u8), (31, .int .u8)] 0 76, [.glob 0 strsT, .rs nn 1 u8s, .own 70 (.vs tvS), .grow true 9 1 strsT], []⟩
def t1X (nn : Bool) : Tm := ⟨mkS [(1, .gs 1), (6, .ptr 2 0), (9, .gs 3)] 0 76, [.glob 0 strsT, .rs nn 1 u8s, .own 70 (.vs tvS), .grow true 9 1 strsT], []⟩
def t2T (nn : Bool) : Tm := ⟨mkS [(6, .ptr 2 0), (9, .gs 3), (37, .gs 1), (38, .int .i64), (39, .int .i64)] 0 76, [.glob 0 strsT, .rs nn 1 u8s, .own 70 (.vs tvS), .grow true 9 1 strsT], []⟩
def t2X (nn : Bool) : Tm := ⟨mkS [(6, .ptr 2 0), (9, .gs 3)] 0 76, [.glob 0 strsT, .rs nn 1 u8s, .own 70 (.vs tvS), .grow true 9 1 strsT], []⟩
def t3T (nn : Bool) : Tm := ⟨mkS [(9, .gs 2), (14, .gs 3), (15, .int .i64)] 0 76, [.glob 0 strsT, .rs nn 1 u8s, .grow true 9 1 strsT, .grow false 9 1 strsT], []⟩
def t3X (nn : Bool) : Tm := ⟨mkS [(14, .gs 2)] 0 76, [.glob 0 strsT, .rs nn 1 u8s, .grow false 9 1 strsT], []⟩
noncomputable abbrev orcT (CH : St → Int → Int) (OV : St → Bool) (LN : ByteArray → ByteArray → ByteArray → ByteArray → ByteArray) (F : Int → List Int → FR) : Oracle := orc1 (tabT CH OV LN) F plainL
end Go.Proofs.YtnhilofmafjdpaaDoor
