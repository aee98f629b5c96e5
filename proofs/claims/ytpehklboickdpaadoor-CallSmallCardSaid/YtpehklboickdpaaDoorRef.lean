/- Chapter 8: the reference's functions of one number, looked at number by number. -/
import Derived.Test.YtpehklboickdpaaDoorCheap
import Derived.Test.YtpehklboickdpaaDoorEng4
namespace Go.Proofs.YtpehklboickdpaaDoor
open Go Go.Eng
noncomputable abbrev runP (T : PTab) (f : FuncId) (fn : Func) (args : List V) (chk : V → Bool) : Bool := runB (evalFn Tryd.prog (orcS T plainL) noLoops 100 f fn args [] (fun v _ => some (chk v)))
/-- The text of a call, and its error. -/
def rtx (c : Int) : ByteArray := bif decide (c ≤ 37) then (textsL[c.toNat]?).getD ⟨#[]⟩ else ⟨#[]⟩
def txE (c : Int) : Int := bif decide (c ≤ 37) then 0 else 80
theorem all33 : allN 256 (fun c => runP tabS 33 Tryd.f33 [.int .u8 (Int.ofNat c)] (chkIIB .u8 (pl (Int.ofNat c)) (pd (Int.ofNat c)) (isB (Int.ofNat c)))) = true := by kernel_rfl
theorem all34 : allN 256 (fun c => runP tabS 34 Tryd.f34 [.int .u8 (Int.ofNat c)] (chkIS .i64 (rtx (Int.ofNat c)) (txE (Int.ofNat c)))) = true := by kernel_rfl
theorem to_nat {c : Int} (h : 0 ≤ c) (h2 : c < 256) : ∃ n : Nat, n < 256 ∧ c = Int.ofNat n := ⟨c.toNat, by omega, by simp; omega⟩
theorem ref_parts {c : Int} (h : 0 ≤ c) (h2 : c < 256) : FnPure Tryd.prog 33 [.int .u8 c] (.tuple [.int .u8 (pl c), .int .u8 (pd c), .bool (isB c)]) := by
  obtain ⟨n, hn, rfl⟩ := to_nat h h2
  exact pure_of_check (orcS_ok tabS_ok plainL_ok) mixed Tryd.func33 (by kernel_rfl) noLoops_ok (allN_ok all33 n hn) (fun _ h => chkIIB_ok h) rfl rfl
theorem ref_text {c : Int} (h : 0 ≤ c) (h2 : c < 256) : FnPure Tryd.prog 34 [.int .u8 c] (.tuple [.str (rtx c), .int .i64 (txE c)]) := by
  obtain ⟨n, hn, rfl⟩ := to_nat h h2
  exact pure_of_check (orcS_ok tabS_ok plainL_ok) mixed Tryd.func34 (by kernel_rfl) noLoops_ok (allN_ok all34 n hn) (fun _ h => chkIS_ok h) rfl rfl
end Go.Proofs.YtpehklboickdpaaDoor
