/- Chapter 8: the law CallSmall: the loop over the first number. -/
import Derived.Test.YtpehklboickdpaaDoorCs2
namespace Go.Proofs.YtpehklboickdpaaDoor
open Go Go.Eng
abbrev D2T := Int → Int → List ByteArray → Bool
noncomputable def k2Tree (D : D2T) : List PV → Fin
  | [.i c, .i d, .ss tl] => .br (D c d tl) (.leaf (.exit 2) (k1T.at [.i c, .ss tl])) .no
  | _ => .no
noncomputable def k2L (D : D2T) : Loops := sums (fun n => match n with | 5 => some (lsumF 1 k2T k2Lp (k2Tree D)) | _ => none)
def chS (c : Int) : ByteArray := bytesOf [wr .u8 c]
def sK (c : Int) : List ByteArray := [apS ⟨#[49, 78]⟩ (chS c), apS (chS c) ⟨#[78, 84]⟩, apS (apS ⟨#[88]⟩ (chS c)) ⟨#[88]⟩, apS (apS ⟨#[80]⟩ (chS c)) ⟨#[80]⟩, apS (apS ⟨#[55]⟩ (chS c)) ⟨#[84]⟩, apS ⟨#[80, 32, 80]⟩ (chS c), chS c]
noncomputable def k1S (X : CS) (c : Int) (tl : List ByteArray) : List ByteArray → RT
  | [] => some (.normal, [.i (wr .i64 (c + 1)), .ss tl], [])
  | s :: r => bif pB (tl = textsL) && X.TC [3, wr .u8 c, 0] s then k1S X c tl r else none
theorem k1_round (X : CS) (D : D2T) (rd : Option Nat) (c : Int) (tl : List ByteArray) : roundT Tryd.prog (orc8 X plainL) (k2L D) 100 1 rd 8 k1Lp k1T k1X [.i c, .ss tl] =
    bif decide (c < 256) then cond (codesB [(k2Lp, k2Lp)]) (bif D c 0 tl then k1S X c tl (sK c) else none) none else some (.exit 0, [.ss tl], []) := by kernel_rfl
end Go.Proofs.YtpehklboickdpaaDoor
