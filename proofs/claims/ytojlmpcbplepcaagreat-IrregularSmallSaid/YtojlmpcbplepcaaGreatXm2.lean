/- Chapter 10: the reference of chapter 8: Right, Cheapest. -/
import Derived.Test.YtojlmpcbplepcaaGreatXm
namespace Go.Proofs.YtojlmpcbplepcaaGreat
open Go Go.Eng
theorem e116 (c : Int) : evalFn Tryz.prog (orcE emptyTab plainL) noLoops 100 100 Tryz.f100 [.int .u8 c] [] (fun v _ => some v) = some (.bool (decide (wr .i64 c < 38))) := by kernel_rfl
theorem right116_p (c : Int) : FnPure Tryz.prog 100 [.int .u8 c] (.bool (decide (wr .i64 c < 38))) := fnPure_of_eval (orcE_ok emptyTab_ok plainL_ok) mixed Tryz.func100 (by kernel_rfl) noLoops_ok (e116 c) rfl rfl
def g116 : List V → Option (Bool × V)
  | [.int .u8 c] => some (true, .bool (decide (wr .i64 c < 38)))
  | _ => none
def tab116 : PTab := addTab 100 g116 tab104
theorem tab116_ok : PTabOk Tryz.prog tab116 := by
  refine addTab_ok (fun args c v h _ => ?_) tab104_ok
  unfold g116 at h
  split at h
  · cases h; exact right116_p _
  · cases h
def ch5 (v e : Int) : Option V := some (.tuple [.int .u8 v, .int .i64 e])
def chF (c d : Int) : Option V := bif !decide (wr .i64 c < 38) then ch5 0 80 else bif decide (c < bidV 1 d) then ch5 (bidV 1 d) 0 else bif decide (c < bidV 2 d) then ch5 (bidV 2 d) 0 else bif decide (c < bidV 3 d) then ch5 (bidV 3 d) 0 else bif decide (c < bidV 4 d) then ch5 (bidV 4 d) 0 else bif decide (c < bidV 5 d) then ch5 (bidV 5 d) 0 else bif decide (c < bidV 6 d) then ch5 (bidV 6 d) 0 else bif decide (c < bidV 7 d) then ch5 (bidV 7 d) 0 else ch5 0 6
theorem e105 (c : Int) : ∀ d : Nat, d < 5 → evalFn Tryz.prog (orcE tab116 plainL) noLoops 1000 79 Tryz.f79 [.int .u8 c, .int .u8 (Int.ofNat d)] [] (fun v _ => some v) = chF c (Int.ofNat d)
  | 0, _ => by kernel_rfl
  | 1, _ => by kernel_rfl
  | 2, _ => by kernel_rfl
  | 3, _ => by kernel_rfl
  | 4, _ => by kernel_rfl
  | n + 5, h => absurd h (by omega)
theorem chF_is {c d : Int} (h : byB c = true) (hd : d ≤ 4) : chF c d = ch5 (chV c d) (chE c d) := by
  have ⟨h1, h2⟩ := by_rg h
  have e : decide (wr .i64 c < 38) = decide (c ≤ 37) := by
    rw [show wr .i64 c = c from wr_i64_id (by omega), Bool.eq_iff_iff, decide_eq_true_eq, decide_eq_true_eq]; omega
  unfold chF chV chE
  rw [e, decide_eq_false (show ¬ (5 ≤ d) by omega)]
  cases decide (c ≤ 37) with
  | false => rfl
  | true =>
    show (bif decide (c < bidV 1 d) then _ else _) = ch5 (bif decide (c < bidV 1 d) then _ else _) (bif decide (c < bidV 1 d) then _ else _)
    cases decide (c < bidV 1 d) <;> cases decide (c < bidV 2 d) <;> cases decide (c < bidV 3 d) <;> cases decide (c < bidV 4 d) <;> cases decide (c < bidV 5 d) <;> cases decide (c < bidV 6 d) <;> cases decide (c < bidV 7 d) <;> rfl
theorem cheap105_p {o d : Int} (h : (byB o && decide (0 ≤ d ∧ d ≤ 4)) = true) : FnPure Tryz.prog 79 [.int .u8 o, .int .u8 d] (.tuple [.int .u8 (chV o d), .int .i64 (chE o d)]) := by
  simp only [Bool.and_eq_true, decide_eq_true_eq] at h
  obtain ⟨h1, h3, h4⟩ := h
  obtain ⟨m, hm, rfl⟩ : ∃ m : Nat, m < 5 ∧ d = Int.ofNat m := ⟨d.toNat, by omega, by simp; omega⟩
  exact fnPure_of_eval (orcE_ok tab116_ok plainL_ok) mixed Tryz.func79 (by kernel_rfl) noLoops_ok ((e105 o m hm).trans (chF_is h1 h4)) rfl rfl
end Go.Proofs.YtojlmpcbplepcaaGreat
