/- Chapter 8: the law CallSmall: strings.Repeat by its contract. -/
import Derived.Test.YtpehklboickdpaaDoorCs5
import Derived.Test.YtpehklboickdpaaDoorShelf2
namespace Go.Proofs.YtpehklboickdpaaDoor
open Go Go.Eng
theorem rep_p {s : ByteArray} {n : Int} (h : repC s n = true) : FnPure Tryd.prog 22 [.str s, .int .i64 n] (.str (repL s n)) := by
  simp only [repC, decide_eq_true_eq] at h
  obtain ⟨h1, h2, h3, h4⟩ := h
  obtain ⟨k, rfl⟩ := Int.eq_ofNat_of_zero_le (show 0 ≤ n by omega)
  have hs : s.size = lenS s := (lenS_eq s).symm
  refine pure_of_below (.of Tryd.func22 (by kernel_rfl)) rfl rfl fun w => ?_
  refine Tryd.strings_Repeat_main s k w (by omega) (by omega) ?_ (by omega)
  have hk : k ≤ 1000 := by omega
  calc s.size * k ≤ 1000 * 1000 := Nat.mul_le_mul (by omega) hk
    _ ≤ 140737488355328 := by omega
theorem tabRp_ok : PTabOk Tryd.prog (tabRp cS) := by
  refine addTab_ok ?_ emptyTab_ok
  intro args c v h hc
  unfold gRep at h
  split at h
  · cases h; exact rep_p hc
  · cases h
end Go.Proofs.YtpehklboickdpaaDoor
