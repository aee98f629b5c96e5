/- Chapter 8: ReadAll's contracts. -/
import Derived.Test.YtpehklboickdpaaDoorRA4
import Derived.Test.YtpehklboickdpaaDoorEng4
namespace Go.Proofs.YtpehklboickdpaaDoor
open Go Go.Eng
def keepX (v : V) (h : List Blk) : Option (V × Option (Bool × TypeId × Nat × Row)) := match v with
  | .tuple [.gs b, w] => match getB h b with
    | .grow nn ty sz row => some (.tuple [.gs b, w], some (nn, ty, sz, row))
    | _ => none
  | v => some (v, none)
theorem readall_eval (s : ByteArray) : evalFn Tryd.prog (orcRd rdC rdE tabS raLL) noLoops 100 21 Tryd.f21 [.str s] gH keepX =
    cond (codesB [(raLp, raLp), (raA, raA), (raB, raB)]) (bif pB (textsL = textsL) && decide (lenS s ≤ 1000000) then bif !!strEq s ⟨#[]⟩ then some (.tuple [.flat (.slice none 0 0), .int .i64 0], none) else
      bif raBad s then some (.tuple [.flat (.slice none 0 0), .int .i64 81], none) else some (.tuple [.gs 7, .int .i64 0], some (false, 5, 1, .ints .u8 (raVal s))) else none) none := by kernel_rfl
theorem raCodes3 : codesB [(raLp, raLp), (raA, raA), (raB, raB)] = true := by
  rw [codesB_iff]; intro x hx; simp at hx; rcases hx with rfl | rfl | rfl <;> rfl
/-- The string is none of calls. -/
def raErr (s : ByteArray) : Bool := !strEq s ⟨#[]⟩ && raBad s
/-- The calls with a string. -/
def raRes (s : ByteArray) : List Int := bif strEq s ⟨#[]⟩ then [] else raVal s
theorem readall_bad {s : ByteArray} (hl : lenS s ≤ 1000000) (h : raErr s = true) : FnOK Tryd.prog 21 [.str s] gH (.tuple [.flat (.slice none 0 0), .int .i64 81]) gH := by
  have key := readall_eval s
  simp only [raErr, Bool.and_eq_true, Bool.not_eq_true'] at h
  rw [raCodes3, pB_iff.2 rfl, decide_eq_true hl, h.1, h.2] at key
  obtain ⟨v1, h1, hk, hok⟩ := evalFn_ok (orcRd_ok tabS_ok raLL_ok) mixed Tryd.func21 noLoops_ok key
  unfold keepX at hk
  split at hk
  · split at hk
    · cases hk
    · cases hk
  · cases hk
    exact hok.plain rfl gH_ro
theorem readall_ok {s : ByteArray} (hl : lenS s ≤ 1000000) (h : raErr s = false) : FnOK Tryd.prog 21 [.str s] gH (.tuple [.gs 1, .int .i64 0]) (gH ++ [.grow false 5 1 (.ints .u8 (raRes s))]) := by
  have key := readall_eval s
  rw [raCodes3, pB_iff.2 rfl, decide_eq_true hl] at key
  unfold raRes
  cases he : strEq s ⟨#[]⟩ with
  | true =>
    rw [he] at key
    obtain ⟨v1, h1, hk, hok⟩ := evalFn_ok (orcRd_ok tabS_ok raLL_ok) mixed Tryd.func21 noLoops_ok key
    unfold keepX at hk
    split at hk
    · split at hk
      · cases hk
      · cases hk
    · cases hk
      exact hok.nilT gH_ro
  | false =>
    simp only [raErr, he, Bool.not_false, Bool.true_and] at h
    rw [he, h] at key
    obtain ⟨v1, h1, hk, hok⟩ := evalFn_ok (orcRd_ok tabS_ok raLL_ok) mixed Tryd.func21 noLoops_ok key
    unfold keepX at hk
    split at hk
    · split at hk
      · rename_i b w nn ty sz row hb
        simp only [Option.some.injEq, Prod.mk.injEq, V.tuple.injEq, List.cons.injEq, V.gs.injEq, and_true] at hk
        obtain ⟨⟨rfl, rfl⟩, rfl, rfl, rfl, rfl⟩ := hk
        exact hok.lastAtT (getB_some hb (by simp)) rfl gH_ro
      · cases hk
    · rename_i hne
      simp only [Option.some.injEq, Prod.mk.injEq] at hk
      cases hk.2
/-! ### where it finds none -/
noncomputable def gRAb : List V → List Blk → Option (Bool × V × List Blk)
  | [.str s], [.glob 0 (.strs l)] => some (pB (l = textsL) && (decide (lenS s ≤ 1000000) && raErr s), .tuple [.flat (.slice none 0 0), .int .i64 81], [])
  | _, _ => none
noncomputable def hTabB (C E : ByteArray → Int) : HTab := addH 21 gRAb (hTabRd C E)
def glB : FuncId → List Nat := fun f => bif Nat.beq f 11 || (Nat.beq f 20 || Nat.beq f 21) then [0] else []
def hDomB : FuncId → Bool := fun f => Nat.beq f 21 || hDomRd f
noncomputable abbrev orcB (C E : ByteArray → Int) (T : PTab) : Oracle := inl Tryd.prog ftab T plainL 100 never hDomB (hOrcG glB (hTabB C E)) 20
theorem hTabB_ok : HTabOk Tryd.prog (hTabB rdC rdE) := by
  refine addH_ok ?_ hTabRd_ok
  intro args h c v nb hq hc
  unfold gRAb at hq
  split at hq
  · cases hq
    simp only [Bool.and_eq_true, decide_eq_true_eq, pB_iff] at hc
    obtain ⟨rfl, h1, h2⟩ := hc
    exact ⟨.of Tryd.func21 (by kernel_rfl), by rw [List.append_nil]; exact readall_bad h1 h2⟩
  · cases hq
theorem orcB_ok {T : PTab} (hT : PTabOk Tryd.prog T) : OracleOk Tryd.prog (orcB rdC rdE T) := inl_ok (hOrcG_ok hTabB_ok) ftab_ok hT plainL_ok mixed 20
end Go.Proofs.YtpehklboickdpaaDoor
