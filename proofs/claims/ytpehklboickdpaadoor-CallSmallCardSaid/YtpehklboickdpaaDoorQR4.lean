/- Chapter 8: the reference's ReadAll: its contract. -/
import Derived.Test.YtpehklboickdpaaDoorQR3
namespace Go.Proofs.YtpehklboickdpaaDoor
open Go Go.Eng
structure XS where
  MB : ByteArray → Bool
  MV : ByteArray → List Int
def xS : XS := ⟨fun s => (rmF s.data.toList [] []).1, fun s => (rmF s.data.toList [] []).2⟩
noncomputable def xrTree (X : XS) : List PV → Fin
  | [.s s, .i z, .s w, .i i, .l l] => .br (decide (i = 0 ∧ lenS w = 0 ∧ l.length = 0 ∧ lenS s ≤ 1000000)) (.br (X.MB s) (.leaf (.exit 0) (xrX.at [.i z, .l (X.MV s)])) (.leaf .ret (xrX.at [.i 81, .l (X.MV s)]))) .no
  | _ => .no
noncomputable def xrL (X : XS) : Loops := sums (fun n => match n with | 6 => some (lsumF 0 xrT xrLp (xrTree X)) | _ => none)
theorem xrL_ok : loopsOk Tryd.prog (xrL xS) := by
  intro n g hg
  simp only [xrL, sums] at hg
  split at hg
  · cases hg
    refine lsumF_ok (by kernel_rfl) (fun rd ps e1 st1 hq => ?_)
    unfold xrTree at hq
    split at hq
    · rename_i s z w i l
      simp only [Fin.pick] at hq
      cases hc : decide (i = 0 ∧ lenS w = 0 ∧ l.length = 0 ∧ lenS s ≤ 1000000) with
      | false => rw [hc] at hq; cases hq
      | true =>
        rw [hc, cond_true] at hq
        simp only [decide_eq_true_eq] at hc
        obtain ⟨rfl, h1, h2, h3⟩ := hc
        have hw : w = ⟨#[]⟩ := by
          obtain ⟨⟨l⟩⟩ := w
          have : l = [] := List.eq_nil_of_length_eq_zero h1
          subst this; rfl
        subst hw
        obtain rfl := List.eq_nil_of_length_eq_zero h2
        have h := xr_loop rd z s h3 (0, [], []) ⟨Nat.zero_le _, by simp, by simp⟩
        have hQ : rmQ s.data.toList 0 [] [] = rmF s.data.toList [] [] := by unfold rmQ; rw [if_pos (Nat.zero_le _), List.drop_zero]
        dsimp only at h
        rw [hQ] at h
        simp only [xS] at hq
        unfold xrFin at h
        generalize rmF s.data.toList [] [] = q at hq h
        obtain ⟨b, t⟩ := q
        cases b with
        | true => cases hq; exact h
        | false => cases hq; exact h
    · cases hq
  · cases hg
theorem xread_eval (RC RE : ByteArray → Int) (X : XS) (s : ByteArray) : evalFn Tryd.prog (orcM textsL (tabRd RC RE) plainL) (xrL X) 100 28 Tryd.f28 [.str s] [] keepX =
    bif strEq s ⟨#[]⟩ then some (.tuple [.flat (.slice none 0 0), .int .i64 0], none) else cond (codesB [(xrLp, xrLp)]) (bif decide ((0 : Int) = 0 ∧ lenS ⟨#[]⟩ = 0 ∧ ([] : List Int).length = 0 ∧ lenS s ≤ 1000000) then
      bif X.MB s then some (.tuple [.gs 0, .int .i64 0], some (false, 5, 1, .ints .u8 (X.MV s))) else some (.tuple [.flat (.slice none 0 0), .int .i64 81], none) else none) none := by kernel_rfl
theorem no_ro : ∀ (b : Nat) blk, ([] : List Blk)[b]? = some blk → blk.mine = false := by
  intro b blk hb; simp at hb
theorem xread_fn {s : ByteArray} (hl : lenS s ≤ 1000000) : FnOK Tryd.prog 28 [.str s] [] (.tuple [.gs 0, .int .i64 (raI s)]) ([] ++ [.grow false 5 1 (.ints .u8 (raV s))]) := by
  have key := xread_eval rdC rdE xS s
  have nil : ∀ z, evalFn Tryd.prog (orcM textsL (tabRd rdC rdE) plainL) (xrL xS) 100 28 Tryd.f28 [.str s] [] keepX = some (.tuple [.flat (.slice none 0 0), .int .i64 z], none) → FnOK Tryd.prog 28 [.str s] [] (.tuple [.gs 0, .int .i64 z]) ([] ++ [.grow false 5 1 (.ints .u8 [])]) := by
    intro z key
    obtain ⟨v1, h1, hk, hok⟩ := evalFn_ok (orcM_ok tabRd_ok plainL_ok) mixed Tryd.func28 xrL_ok key
    unfold keepX at hk
    split at hk
    · split at hk
      · cases hk
      · cases hk
    · simp only [Option.some.injEq, Prod.mk.injEq, and_true] at hk
      subst hk
      exact hok.nilT no_ro
  cases hs : strEq s ⟨#[]⟩ with
  | true =>
    obtain ⟨e1, e2⟩ := rm_no hs
    rw [hs, cond_true] at key
    rw [e1, e2]
    exact nil 0 key
  | false =>
    rw [hs, cond_false, lpCd, decide_eq_true (show (0 : Int) = 0 ∧ lenS ⟨#[]⟩ = 0 ∧ ([] : List Int).length = 0 ∧ lenS s ≤ 1000000 from ⟨rfl, rfl, rfl, hl⟩)] at key
    simp only [cond_true, xS] at key
    have hG := rmF_G s.data.toList [] []
    cases hb : (rmF s.data.toList [] []).1 with
    | false =>
      rw [hb] at key hG
      obtain ⟨e1, e2⟩ := rm_bad hs hG
      rw [e1, e2]
      exact nil 81 key
    | true =>
      rw [hb] at key hG
      obtain ⟨e1, e2⟩ := rm_ok hs hG
      obtain ⟨v1, h1, hk, hok⟩ := evalFn_ok (orcM_ok tabRd_ok plainL_ok) mixed Tryd.func28 xrL_ok key
      unfold keepX at hk
      split at hk
      · split at hk
        · rename_i b w nn ty sz row hbb
          simp only [Option.some.injEq, Prod.mk.injEq, V.tuple.injEq, List.cons.injEq, V.gs.injEq, and_true] at hk
          obtain ⟨⟨rfl, rfl⟩, rfl, rfl, rfl, rfl⟩ := hk
          rw [e1, e2]
          exact hok.lastAtT (getB_some hbb (by simp)) rfl no_ro
        · cases hk
      · cases hk
end Go.Proofs.YtpehklboickdpaaDoor
