/- Chapter 8: the reference's Names as a contract; its Read. -/
import Derived.Test.YtpehklboickdpaaDoorQK
import Derived.Test.YtpehklboickdpaaDoorEng4
namespace Go.Proofs.YtpehklboickdpaaDoor
open Go Go.Eng
def vsT : List V := textsL.map .str
theorem names_eval : evalFn Tryd.prog (orcE emptyTab plainL) noLoops 100 50 Tryd.f50 [] [] (fun v h => some (v, h)) = some (.gs 0, [.grow true 9 1 (.vs vsT)]) := by kernel_rfl
theorem names_fn : FnOK Tryd.prog 50 [] [] (.gs 0) ([] ++ [.grow true 9 1 (.strs textsL)]) := by
  obtain ⟨v1, h1, hk, hok⟩ := evalFn_ok (orcE_ok emptyTab_ok plainL_ok) mixed Tryd.func50 noLoops_ok names_eval
  simp only [Option.some.injEq, Prod.mk.injEq] at hk
  obtain ⟨rfl, rfl⟩ := hk
  exact FnOK.reRow (h0 := []) (row := .vs vsT) rfl hok
def gNames (NL : List ByteArray) : List V → List Blk → Option (Bool × V × List Blk)
  | [], [] => some (true, .gs 0, [.grow true 9 1 (.strs NL)])
  | _, _ => none
def hTabNm (NL : List ByteArray) : HTab := addH 50 (gNames NL) emptyH
theorem hTabNm_ok : HTabOk Tryd.prog (hTabNm textsL) := by
  refine addH_ok ?_ emptyH_ok
  intro args h c v nb hq hc
  unfold gNames at hq
  split at hq
  · cases hq; exact ⟨.of Tryd.func50 (by kernel_rfl), names_fn⟩
  · cases hq
def is50 : FuncId → Bool := fun f => Nat.beq f 50
def glNo : FuncId → List Nat := fun _ => []
def nrB : FuncId → Option Row := fun _ => some (.ints .u8 [])
noncomputable abbrev orcM (NL : List ByteArray) (T : PTab) (LL : FuncId → Loops) : Oracle := inl Tryd.prog ftab T LL 100 never is50 (hOrcP nrB (hTabNm NL)) 20
theorem orcM_ok {T : PTab} (hT : PTabOk Tryd.prog T) {LL : FuncId → Loops} (hL : ∀ f, loopsOk Tryd.prog (LL f)) : OracleOk Tryd.prog (orcM textsL T LL) := inl_ok (hOrcP_ok hTabNm_ok) ftab_ok hT hL mixed 20
theorem rread_eval (s : ByteArray) : evalFn Tryd.prog (orcM textsL emptyTab plainL) noLoops 100 29 Tryd.f29 [.str s] [] (fun v _ => some v) = rdGo textsL 0 s := by kernel_rfl
theorem rread_p (s : ByteArray) : FnPure Tryd.prog 29 [.str s] (.tuple [.int .u8 (rdC s), .int .i64 (rdE s)]) :=
  fnPure_of_eval (orcM_ok emptyTab_ok plainL_ok) mixed Tryd.func29 (by kernel_rfl) noLoops_ok (by rw [rread_eval, rdGo_eq]; rfl) rfl rfl
def gRdR (RC RE : ByteArray → Int) : List V → Option (Bool × V)
  | [.str s] => some (true, .tuple [.int .u8 (RC s), .int .i64 (RE s)])
  | _ => none
def tabRd (RC RE : ByteArray → Int) : PTab := addTab 29 (gRdR RC RE) emptyTab
theorem tabRd_ok : PTabOk Tryd.prog (tabRd rdC rdE) := by
  refine addTab_ok ?_ emptyTab_ok
  intro args c v h _
  unfold gRdR at h
  split at h
  · cases h; exact rread_p _
  · cases h
end Go.Proofs.YtpehklboickdpaaDoor
