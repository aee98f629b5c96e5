/- Chapter 10: the reference of chapter 8: Parts, Cheapest; suits: number by number. -/
import Derived.Test.YtojlmpcbplepcaaGreatXk
import Derived.Test.YtojlmpcbplepcaaGreatEng5
namespace Go.Proofs.YtojlmpcbplepcaaGreat
open Go Go.Eng
noncomputable abbrev runQ (T : PTab) (f : FuncId) (fn : Func) (args : List V) (chk : V → Bool) : Bool := runB (evalFn Tryz.prog (orcE T plainL) noLoops 100 f fn args [] (fun v _ => some (chk v)))
theorem all104 : allN 256 (fun c => runQ emptyTab 69 Tryz.f69 [.int .u8 (Int.ofNat c)] (chkIIB .u8 (lvZ (Int.ofNat c)) (dnZ (Int.ofNat c)) (isBid (Int.ofNat c)))) = true := by kernel_rfl
theorem to_nat {c : Int} (h : 0 ≤ c) (h2 : c < 256) : ∃ n : Nat, n < 256 ∧ c = Int.ofNat n := ⟨c.toNat, by omega, by simp; omega⟩
theorem parts104_p {c : Int} (h : byB c = true) : FnPure Tryz.prog 69 [.int .u8 c] (.tuple [.int .u8 (lvZ c), .int .u8 (dnZ c), .bool (isBid c)]) := by
  obtain ⟨n, hn, rfl⟩ := to_nat (by_rg h).1 (by_rg h).2
  exact pure_of_check (orcE_ok emptyTab_ok plainL_ok) mixed Tryz.func69 (by kernel_rfl) noLoops_ok (allN_ok all104 n hn) (fun _ h => chkIIB_ok h) rfl rfl
def g104 : List V → Option (Bool × V)
  | [.int .u8 c] => some (byB c, .tuple [.int .u8 (lvZ c), .int .u8 (dnZ c), .bool (isBid c)])
  | _ => none
def tab104 : PTab := addTab 69 g104 emptyTab
theorem g104_ok : ∀ args c v, g104 args = some (c, v) → c = true → FnPure Tryz.prog 69 args v := by
  intro args c v h hc
  unfold g104 at h
  split at h
  · cases h; exact parts104_p hc
  · cases h
theorem tab104_ok : PTabOk Tryz.prog tab104 := addTab_ok g104_ok emptyTab_ok
def chkI (k : IntKind) (a : Int) : V → Bool
  | .int k1 a' => decide (k = k1) && decide (a' = a)
  | _ => false
theorem chkI_ok {k : IntKind} {a : Int} {v : V} (h : chkI k a v = true) : v = .int k a := by
  unfold chkI at h
  split at h
  · simp only [Bool.and_eq_true, decide_eq_true_eq] at h
    obtain ⟨rfl, rfl⟩ := h; rfl
  · cases h
theorem all108 : allN 256 (fun c => runQ tab104 81 Tryz.f81 [.int .u8 (Int.ofNat c)] (chkI .u8 (suI (Int.ofNat c)))) = true := by kernel_rfl
theorem suits108_p {c : Int} (h : byB c = true) : FnPure Tryz.prog 81 [.int .u8 c] (.int .u8 (suI c)) := by
  obtain ⟨n, hn, rfl⟩ := to_nat (by_rg h).1 (by_rg h).2
  exact pure_of_check (orcE_ok tab104_ok plainL_ok) mixed Tryz.func81 (by kernel_rfl) noLoops_ok (allN_ok all108 n hn) (fun _ h => chkI_ok h) rfl rfl
end Go.Proofs.YtojlmpcbplepcaaGreat
