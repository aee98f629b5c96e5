/- Chapter 8: CallTells answers true, for any two numbers. -/
import Derived.Test.YtpehklboickdpaaDoorRefS
namespace Go.Proofs.YtpehklboickdpaaDoor
open Go Go.Eng
theorem ct_all (c d : Int) : lawT tabT plainL 6 Tryd.f6 [.int .u8 c, .int .u8 d] =
    bif decide (0 ≤ d) then bif inR c then bif pB (textsL = textsL ∧ 0 ≤ c) then bif inR c then bif inR c && decide (0 ≤ d) then bif inR c && inR d then
      bif (bif decide (c ≤ 37) then decide (wr .i64 c < 38) else !decide (wr .i64 c < 38)) then
      bif decide (bidV c d = bidV c d) then bif decide (pl c = pl c) then bif decide (pd c = pd c) then bif (bif isB c then isB c else !isB c) then
      bif beqBs (rtx c).data.toList (rtx c).data.toList then bif decide (chV c d = chV c d) then bif decide (juV c d = juV c d) then bif decide (bidE c d = bidE c d) then
      bif decide (txE c = txE c) then bif decide (chE c d = chE c d) then bif decide (juE c d = juE c d) then bif pB (textsL = textsL) then some (.bool true) else none
      else fV else fV else fV else fV else fV else fV else fV else fV else fV else fV else fV else fV
    else none else none else none else none else none else none := by kernel_rfl
theorem ct_true {c d : Int} (hc : 0 ≤ c ∧ c < 256) (hd : 0 ≤ d ∧ d < 256) : lawT tabT plainL 6 Tryd.f6 [.int .u8 c, .int .u8 d] = some (.bool true) := by
  have b : ∀ l : List UInt8, beqBs l l = true := fun l => by
    induction l with
    | nil => rfl
    | cons x r ih => simp [beqBs, ih]
  rw [ct_all, inR_true hc.1 hc.2, inR_true hd.1 hd.2, pB_iff.2 ⟨rfl, hc.1⟩, pB_iff.2 rfl, b, wr64c (by omega) (by omega)]
  by_cases h : c ≤ 37
  · simp [h, hd.1, show c < 38 by omega]
  · simp [h, hd.1, show ¬ c < 38 by omega]
end Go.Proofs.YtpehklboickdpaaDoor
