/- Texts merged: Tb, Tb2, Tb3. -/
import Derived.Test.YtnhilofmafjdpaaDoorLst
import Derived.Test.YtnhilofmafjdpaaDoorBld
/- Chapter 9: Table: its loops. -/
namespace Go.Proofs.YtnhilofmafjdpaaDoor
open Go Go.Eng
def textsL : List ByteArray := [⟨#[80]⟩, ⟨#[88]⟩, ⟨#[88, 88]⟩, ⟨#[49, 67]⟩, ⟨#[49, 68]⟩, ⟨#[49, 72]⟩, ⟨#[49, 83]⟩, ⟨#[49, 78, 84]⟩, ⟨#[50, 67]⟩, ⟨#[50, 68]⟩, ⟨#[50, 72]⟩, ⟨#[50, 83]⟩, ⟨#[50, 78, 84]⟩, ⟨#[51, 67]⟩, ⟨#[51, 68]⟩, ⟨#[51, 72]⟩, ⟨#[51, 83]⟩, ⟨#[51, 78, 84]⟩, ⟨#[52, 67]⟩, ⟨#[52, 68]⟩, ⟨#[52, 72]⟩, ⟨#[52, 83]⟩, ⟨#[52, 78, 84]⟩, ⟨#[53, 67]⟩, ⟨#[53, 68]⟩, ⟨#[53, 72]⟩, ⟨#[53, 83]⟩, ⟨#[53, 78, 84]⟩, ⟨#[54, 67]⟩, ⟨#[54, 68]⟩, ⟨#[54, 72]⟩, ⟨#[54, 83]⟩, ⟨#[54, 78, 84]⟩, ⟨#[55, 67]⟩, ⟨#[55, 68]⟩, ⟨#[55, 72]⟩, ⟨#[55, 83]⟩, ⟨#[55, 78, 84]⟩]
def lineS (a b c d : ByteArray) : ByteArray := ⟨(cellL a ++ cellL b ++ cellL c ++ cellL d).toArray⟩
def gLine (LN : ByteArray → ByteArray → ByteArray → ByteArray → ByteArray) : List V → Option (Bool × V)
  | [.agg [.str a, .str b, .str c, .str d]] => some (decide (a.size ≤ 5 ∧ b.size ≤ 5 ∧ c.size ≤ 5 ∧ d.size ≤ 5), .str (LN a b c d))
  | _ => none
def tabT (CH : St → Int → Int) (OV : St → Bool) (LN : ByteArray → ByteArray → ByteArray → ByteArray → ByteArray) : PTab := addTab 48 (gLine LN) (tabO CH OV)
theorem tabT_ok : PTabOk Tryd.prog (tabT chk ovr lineS) := by
  refine addTab_ok ?_ tabO_ok
  intro args c v h hc
  unfold gLine at h
  split at h
  · cases h
    simp only [decide_eq_true_eq] at hc
    exact pure_of_below (.of Tryd.func48 (by kernel_rfl)) rfl rfl fun w => line_p _ _ _ _ w hc.1 hc.2.1 hc.2.2.1 hc.2.2.2
  · cases h
def strsT : TR := .strs
noncomputable def t1Lp : Code := loopOf 6 Tryd.f20
noncomputable def t2Lp : Code := loopOf 10 Tryd.f20
noncomputable def t3Lp : Code := loopOf 19 Tryd.f20
def t1T (nn : Bool) : Tm := ⟨mkS [(1, .gs 1), (6, .ptr 2 0), (9, .gs 3), (30, .int .u8), (31, .int .u8)] 0 76, [.glob 0 strsT, .rs nn 1 u8s, .own 70 (.vs tvS), .grow true 9 1 strsT], []⟩
def t1X (nn : Bool) : Tm := ⟨mkS [(1, .gs 1), (6, .ptr 2 0), (9, .gs 3)] 0 76, [.glob 0 strsT, .rs nn 1 u8s, .own 70 (.vs tvS), .grow true 9 1 strsT], []⟩
def t2T (nn : Bool) : Tm := ⟨mkS [(6, .ptr 2 0), (9, .gs 3), (37, .gs 1), (38, .int .i64), (39, .int .i64)] 0 76, [.glob 0 strsT, .rs nn 1 u8s, .own 70 (.vs tvS), .grow true 9 1 strsT], []⟩
def t2X (nn : Bool) : Tm := ⟨mkS [(6, .ptr 2 0), (9, .gs 3)] 0 76, [.glob 0 strsT, .rs nn 1 u8s, .own 70 (.vs tvS), .grow true 9 1 strsT], []⟩
def t3T (nn : Bool) : Tm := ⟨mkS [(9, .gs 2), (14, .gs 3), (15, .int .i64)] 0 76, [.glob 0 strsT, .rs nn 1 u8s, .grow true 9 1 strsT, .grow false 9 1 strsT], []⟩
def t3X (nn : Bool) : Tm := ⟨mkS [(14, .gs 2)] 0 76, [.glob 0 strsT, .rs nn 1 u8s, .grow false 9 1 strsT], []⟩
noncomputable abbrev orcT (CH : St → Int → Int) (OV : St → Bool) (LN : ByteArray → ByteArray → ByteArray → ByteArray → ByteArray) (F : Int → List Int → FR) : Oracle := orc1 (tabT CH OV LN) F plainL
end Go.Proofs.YtnhilofmafjdpaaDoor

/- Chapter 9: Table: one round of each loop. -/
namespace Go.Proofs.YtnhilofmafjdpaaDoor
open Go Go.Eng
def dashS : ByteArray := ⟨#[45]⟩
def askS : ByteArray := ⟨#[63]⟩
def noS : ByteArray := ⟨#[]⟩
abbrev LNT := ByteArray → ByteArray → ByteArray → ByteArray → ByteArray
theorem t1_round (CH : St → Int → Int) (OV : St → Bool) (LN : LNT) (nn : Bool) (rd : Option Nat) (n i : Int) (tl cs : List ByteArray) (xs : List Int) (s : St) : roundT Tryd.prog (orcE (tabT CH OV LN) plainL) noLoops 100 2 rd 20 t1Lp (t1T nn) (t1X nn) (.i n :: .i i :: .ss tl :: .l xs :: s.pv [.ss cs]) =
    bif decide (i < n) then bif decide ((cs ++ [dashS]).length * 17 ≤ 70368744177664) then some (.normal, .i n :: .i (wr .u8 (i + 1)) :: .ss tl :: .l xs :: s.pv [.ss (cs ++ [dashS])], []) else none else some (.exit 0, .ss tl :: .l xs :: s.pv [.ss cs], []) := by cases nn <;> kernel_rfl
def atB {α : Type} (l : List ByteArray) (c : Int) (K : ByteArray → Option α) : Option α := bif decide (0 ≤ c ∧ c < 38) then (match l[c.toNat]? with | some v => K v | none => none) else none
theorem t2_round (CH : St → Int → Int) (OV : St → Bool) (LN : LNT) (nn : Bool) (rd : Option Nat) (n i : Int) (tl cs : List ByteArray) (xs : List Int) (s : St) : roundT Tryd.prog (orcE (tabT CH OV LN) plainL) noLoops 100 2 rd 20 t2Lp (t2T nn) (t2X nn) (.i n :: .i i :: .ss tl :: .l xs :: s.pv [.ss cs]) =
    bif decide (i < n) then atU xs i (fun c => bif !decide (c ≤ 37) then (bif decide ((cs ++ [noS]).length * 17 ≤ 70368744177664) then some (.normal, .i n :: .i (wr .i64 (i + 1)) :: .ss tl :: .l xs :: s.pv [.ss (cs ++ [noS])], []) else none) else
      atB tl c (fun t => bif decide ((cs ++ [t]).length * 17 ≤ 70368744177664) then some (.normal, .i n :: .i (wr .i64 (i + 1)) :: .ss tl :: .l xs :: s.pv [.ss (cs ++ [t])], []) else none)) else some (.exit 2, .ss tl :: .l xs :: s.pv [.ss cs], []) := by cases nn <;> kernel_rfl
end Go.Proofs.YtnhilofmafjdpaaDoor

/- Chapter 9: Table: one round of its third loop. -/
namespace Go.Proofs.YtnhilofmafjdpaaDoor
open Go Go.Eng
def qC (cs : List ByteArray) (i : Int) (k : Nat) : ByteArray := bif decide (k < (Int.ofNat cs.length).toNat - i.toNat) then cs.getD (i.toNat + k) noS else noS
def q4 (cs : List ByteArray) (i : Int) : Bool := decide ((qC cs i 0).size ≤ 5 ∧ (qC cs i 1).size ≤ 5 ∧ (qC cs i 2).size ≤ 5 ∧ (qC cs i 3).size ≤ 5)
theorem t3_round (CH : St → Int → Int) (OV : St → Bool) (LN : LNT) (nn : Bool) (rd : Option Nat) (i : Int) (tl cs ts : List ByteArray) (xs : List Int) : roundT Tryd.prog (orcE (tabT CH OV LN) plainL) noLoops 100 2 rd 20 t3Lp (t3T nn) (t3X nn) [.i i, .ss tl, .l xs, .ss cs, .ss ts] =
    bif decide (i < Int.ofNat cs.length) then bif decide (0 ≤ i ∧ i ≤ Int.ofNat cs.length ∧ Int.ofNat cs.length ≤ Int.ofNat cs.length) then bif decide (i.toNat + ((Int.ofNat cs.length).toNat - i.toNat) ≤ cs.length) then
      bif q4 cs i then bif decide ((ts ++ [LN (qC cs i 0) (qC cs i 1) (qC cs i 2) (qC cs i 3)]).length * 17 ≤ 70368744177664) then some (.normal, [.i (wr .i64 (i + 4)), .ss tl, .l xs, .ss cs, .ss (ts ++ [LN (qC cs i 0) (qC cs i 1) (qC cs i 2) (qC cs i 3)])], []) else none else none else none else none else some (.exit 4, [.ss tl, .l xs, .ss ts], []) := by cases nn <;> kernel_rfl
end Go.Proofs.YtnhilofmafjdpaaDoor
