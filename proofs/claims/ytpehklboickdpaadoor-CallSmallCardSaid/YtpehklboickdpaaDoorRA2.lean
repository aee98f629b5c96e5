/- Chapter 8: ReadAll: one round. -/
import Derived.Test.YtpehklboickdpaaDoorRA
namespace Go.Proofs.YtpehklboickdpaaDoor
open Go Go.Eng
abbrev RTx := Option (XE × List PV × List (Code × Code))
noncomputable def raCd : List (Code × Code) := [(raA, raA), (raB, raB)]
noncomputable def raOne (E : ByteArray → Int) (w : ByteArray) (full fit : Bool) (ret nx : List PV) : RTx := bif pB (textsL = textsL) then bif !decide (E w = 0) then some (.ret, ret, raCd) else bif full then some (.ret, ret, raCd) else bif fit then some (.normal, nx, raCd) else none else none
noncomputable def raRd (E : ByteArray → Int) (r : ByteArray) (b full : Bool) (fit : ByteArray → Bool) (ret : List PV) (nx : ByteArray → Bool → ByteArray → List PV) (ex : List PV) : RTx :=
  bif b then bif strEq ⟨#[32]⟩ r then bif decide (0 ≤ (1 : Int) ∧ (1 : Int) ≤ Int.ofNat (lenS r) ∧ Int.ofNat (lenS r) ≤ Int.ofNat (lenS r)) then raOne E (extS r (0 : Int).toNat (0 : Int).toNat) full (fit (extS r (0 : Int).toNat (0 : Int).toNat)) ret (nx (extS r (1 : Int).toNat (Int.ofNat (lenS r)).toNat) true (extS r (0 : Int).toNat (0 : Int).toNat)) else none else
    bif decide (0 ≤ idxI r 32) then bif decide (0 ≤ (0 : Int) ∧ 0 ≤ idxI r 32 ∧ idxI r 32 ≤ Int.ofNat (lenS r)) then bif decide (0 ≤ wr .i64 (idxI r 32 + 1) ∧ wr .i64 (idxI r 32 + 1) ≤ Int.ofNat (lenS r) ∧ Int.ofNat (lenS r) ≤ Int.ofNat (lenS r)) then
      raOne E (extS r (0 : Int).toNat (idxI r 32).toNat) full (fit (extS r (0 : Int).toNat (idxI r 32).toNat)) ret (nx (extS r (wr .i64 (idxI r 32 + 1)).toNat (Int.ofNat (lenS r)).toNat) true (extS r (0 : Int).toNat (idxI r 32).toNat)) else none else none else
    raOne E r full (fit r) ret (nx ⟨#[]⟩ false r) else some (.exit 0, ex, raCd)
theorem ra_round (rd : Option Nat) (C E : ByteArray → Int) (r s1 s2 s3 : ByteArray) (b : Bool) (l : List Int) : roundX Tryd.prog (orcRd C E tabS plainL) noLoops 100 7 rd 51 raLp raT raT raE [.s r, .b b, .ss textsL, .s s1, .s s2, .s s3, .l l] =
    raRd E r b (decide (Int.ofNat l.length = 319)) (fun w => decide ((l ++ [C w]).length * 2 ≤ 70368744177664)) [.ss textsL, .s s1, .s s2, .s s3] (fun r' b' w => [.s r', .b b', .ss textsL, .s s1, .s s2, .s s3, .l (l ++ [C w])]) [.ss textsL, .s s1, .s s2, .s s3, .l l] := by kernel_rfl
theorem ra_first (rd : Option Nat) (C E : ByteArray → Int) (r s1 s2 s3 : ByteArray) (b : Bool) : roundX Tryd.prog (orcRd C E tabS plainL) noLoops 100 7 rd 51 raLp raT0 raT raE0 [.s r, .b b, .ss textsL, .s s1, .s s2, .s s3] =
    raRd E r b false (fun _ => true) [.ss textsL, .s s1, .s s2, .s s3] (fun r' b' w => [.s r', .b b', .ss textsL, .s s1, .s s2, .s s3, .l [C w]]) [.ss textsL, .s s1, .s s2, .s s3] := by kernel_rfl
end Go.Proofs.YtpehklboickdpaaDoor
