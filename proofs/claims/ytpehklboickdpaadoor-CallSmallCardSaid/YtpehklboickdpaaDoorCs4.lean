/- Chapter 8: the law CallSmall: the loops; the whole as a formula. -/
import Derived.Test.YtpehklboickdpaaDoorCs3
namespace Go.Proofs.YtpehklboickdpaaDoor
open Go Go.Eng
noncomputable def k1Tree (D : Int → List ByteArray → Bool) : List PV → Fin
  | [.i c, .ss tl] => .br (D c tl) (.leaf (.exit 0) (k1X.at [.ss tl])) .no
  | _ => .no
noncomputable def k1L (D : Int → List ByteArray → Bool) : Loops := sums (fun n => match n with | 2 => some (lsumF 1 k1T k1Lp (k1Tree D)) | _ => none)
def s7N : ByteArray := ⟨#[55, 78, 84, 32]⟩
def sP : ByteArray := ⟨#[80, 32]⟩
def zerL (n : Nat) : List Int := List.replicate n 0
noncomputable def kN (X : CS) : Nat → Nat → Option V
  | 0, _ => bif pB (textsL = textsL) && X.TC [] ⟨#[]⟩ then bif pB (textsL = textsL) then some (.bool true) else none else none
  | m + 1, n => bif X.RC s7N ((n : Int) - 1) then bif decide (lenS (X.RV s7N ((n : Int) - 1)) + 3 ≤ 9223372036854775807) then bif pB (textsL = textsL) && X.TC (zerL n) (apS (X.RV s7N ((n : Int) - 1)) ⟨#[55, 78, 84]⟩) then
      bif X.RC sP (n : Int) then bif pB (textsL = textsL) && X.TC (zerL n ++ [38]) (X.RV sP (n : Int)) then kN X m (n + 1) else none else none else none else none else none
theorem small_eval (X : CS) (D : Int → List ByteArray → Bool) : evalFn Tryd.prog (orc8 X plainL) (k1L D) 100 8 Tryd.f8 [] gH (fun v _ => some v) = cond (codesB [(k1Lp, k1Lp)]) (bif D 0 textsL then kN X 6 317 else none) none := by kernel_rfl
end Go.Proofs.YtpehklboickdpaaDoor
