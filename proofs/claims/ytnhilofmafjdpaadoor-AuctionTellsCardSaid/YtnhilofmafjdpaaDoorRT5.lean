/- Chapter 9: the reference: Table's contract. -/
import Derived.Test.YtnhilofmafjdpaaDoorRT
namespace Go.Proofs.YtnhilofmafjdpaaDoor
open Go Go.Eng
def ovN (d n : Int) (xs : List Int) : Bool := decide (n = d + (xs.length : Int))
def tlV (d n : Int) (xs : List Int) : List ByteArray := lns (tbC d xs (ovN d n xs))
def tlC (d n : Int) (xs : List Int) : Bool := decide (0 ≤ d ∧ d ≤ 3 ∧ xs.length ≤ 1000000 ∧ n = ((tbC d xs (ovN d n xs)).length : Int)) && allC xs
noncomputable def tlTree (C : Int → Int → List Int → Bool) (TV : Int → Int → List Int → List ByteArray) (nn : Bool) : List PV → Fin
  | [.i d, .i n, .s ln, .i i, .l xs, .ss out] => .br (decide (i = 0 ∧ lenS ln = 0 ∧ out.length = 0) && C d n xs) (.leaf (.exit 0) ((tlX nn).at [.l xs, .ss (TV d n xs)])) .no
  | _ => .no
noncomputable def tlL (C : Int → Int → List Int → Bool) (TV : Int → Int → List Int → List ByteArray) (nn : Bool) : Loops := sums (fun n => match n with | 9 => some (lsumF 1 (tlT nn) tlLp (tlTree C TV nn)) | _ => none)
theorem tlL_ok (nn : Bool) : loopsOk Tryd.prog (tlL tlC tlV nn) := by
  intro n g hg
  simp only [tlL, sums] at hg
  split at hg
  · cases hg
    refine lsumF_ok (by cases nn <;> kernel_rfl) (fun rd ps e1 st1 hq => ?_)
    unfold tlTree at hq
    split at hq
    · rename_i d n ln i xs out
      simp only [Fin.pick] at hq
      cases hc : (decide (i = 0 ∧ lenS ln = 0 ∧ out.length = 0) && tlC d n xs) with
      | false => rw [hc] at hq; cases hq
      | true =>
        rw [hc, cond_true] at hq
        simp only [tlC, Bool.and_eq_true, decide_eq_true_eq] at hc
        obtain ⟨⟨rfl, h1, h2⟩, ⟨h3, h4, h5, h6⟩, h7⟩ := hc
        obtain rfl := List.eq_nil_of_length_eq_zero h2
        have hln : ln = lnI (tbC d xs (ovN d n xs)) 0 := by
          obtain ⟨⟨l⟩⟩ := ln
          have : l = [] := List.eq_nil_of_length_eq_zero h1
          subst this; rfl
        have h := tl_loop nn rd d xs (ovN d n xs) ⟨h3, h4⟩ h7 h5 0 (Nat.zero_le _)
        rw [← hln, ← h6] at h
        cases hq
        exact h
    · cases hq
  · cases hg
noncomputable def rtE (C : Int → Int → List Int → Bool) (TV : Int → Int → List Int → List ByteArray) (d n : Int) (xs : List Int) : Option (V × Option (Bool × TypeId × Nat × Row)) :=
  cond (codesB [(tlLp, tlLp)]) (bif decide ((0 : Int) = 0 ∧ lenS ⟨#[]⟩ = 0 ∧ ([] : List ByteArray).length = 0) && C d n xs then some (.tuple [.gs 1, .int .i64 0], some (false, 9, 1, .strs (TV d n xs))) else none) none
theorem rtable_eval (R : RH) (PD : ByteArray → ByteArray) (TX : Int → ByteArray) (TE : Int → Int) (C : Int → Int → List Int → Bool) (TV : Int → Int → List Int → List ByteArray) (nn : Bool) (d : Int) (xs : List Int) : evalFn Tryd.prog (orcH R (tabTl PD R.SE TX TE) plainL) (tlL C TV nn) 100 44 Tryd.f44 [.int .u8 d, .gs 0] [.rs nn 1 (.ints .u8 xs)] keepX =
    bif R.KR d xs then bif !decide (R.CE d xs = 0) then some (.tuple [.flat (.slice none 0 0), .int .i64 2], none) else bif R.G.F.KS xs then bif !R.G.EN xs then rtE C TV d (wr .i64 (wr .i64 (wr .i64 d + Int.ofNat xs.length) + 1)) xs else rtE C TV d (wr .i64 (wr .i64 d + Int.ofNat xs.length)) xs else none else none := by cases nn <;> kernel_rfl
theorem rtE_true {d : Int} {xs : List Int} {o : Bool} (hd : 0 ≤ d ∧ d ≤ 3) (hc : allC xs = true) (hl : xs.length ≤ 1000000) : rtE tlC tlV d ((tbC d xs o).length : Int) xs = some (.tuple [.gs 1, .int .i64 0], some (false, 9, 1, .strs (lns (tbC d xs o)))) := by
  have htl := tbC_len (d := d) xs hd.1 o
  have ho : ovN d ((tbC d xs o).length : Int) xs = o := by
    unfold ovN
    cases o with
    | true => simp only [cond_true] at htl; exact decide_eq_true (by omega)
    | false => simp only [cond_false] at htl; exact decide_eq_false (by omega)
  have hC : tlC d ((tbC d xs o).length : Int) xs = true := by
    unfold tlC
    rw [ho, hc, decide_eq_true (show 0 ≤ d ∧ d ≤ 3 ∧ xs.length ≤ 1000000 ∧ ((tbC d xs o).length : Int) = ((tbC d xs o).length : Int) from ⟨hd.1, hd.2, hl, rfl⟩)]; rfl
  unfold rtE tlV
  rw [ho, hC, lpCd]; rfl
theorem rtable_fn (nn : Bool) {d : Int} {xs : List Int} (h : kR d xs = true) : FnOK Tryd.prog 44 [.int .u8 d, .gs 0] [.rs nn 1 (.ints .u8 xs)] (.tuple [.gs 1, .int .i64 (tblE (fol d xs))]) ([.rs nn 1 (.ints .u8 xs)] ++ [.grow false 9 1 (.strs (tblV (fol d xs) d xs))]) := by
  obtain ⟨g1, g2, g3⟩ := kR_ok h
  have key := rtable_eval rH padS rtxt rtxE tlC tlV nn d xs
  rw [show rH.KR d xs = true from h, show rH.CE d xs = (fol d xs).e from rfl, show rH.G.F.KS xs = true from g3, show rH.G.EN xs = endV xs from rfl] at key
  unfold tblE tblV
  by_cases he : (fol d xs).e = 0
  · obtain ⟨q0, q1, q2⟩ := fol_ok g1 he
    have hof : Int.ofNat xs.length = (xs.length : Int) := rfl
    have htl := tbC_len (d := d) xs q0 (ovr (fol d xs).s)
    rw [decide_eq_true he, end_is g1 he, hof, wr64 (n := d) (by omega) (by omega), wr64 (n := d + (xs.length : Int)) (by omega) (by omega), wr64 (n := d + (xs.length : Int) + 1) (by omega) (by omega)] at key
    rw [decide_eq_true he]
    have key2 : evalFn Tryd.prog (orcH rH (tabTl padS rH.SE rtxt rtxE) plainL) (tlL tlC tlV nn) 100 44 Tryd.f44 [.int .u8 d, .gs 0] [.rs nn 1 (.ints .u8 xs)] keepX = some (.tuple [.gs 1, .int .i64 0], some (false, 9, 1, .strs (lns (tbC d xs (ovr (fol d xs).s))))) := by
      rw [key]
      have ht := rtE_true (o := ovr (fol d xs).s) ⟨q0, q1⟩ q2 g2
      cases ho : ovr (fol d xs).s with
      | true =>
        rw [ho] at htl ht
        simp only [cond_true] at htl
        rw [show d + (xs.length : Int) = ((tbC d xs true).length : Int) by omega]
        exact ht
      | false =>
        rw [ho] at htl ht
        simp only [cond_false] at htl
        rw [show d + (xs.length : Int) + 1 = ((tbC d xs false).length : Int) by omega]
        exact ht
    obtain ⟨v1, h1, hk, hok⟩ := evalFn_ok (orcH_ok tabTl_ok plainL_ok) mixed Tryd.func44 (tlL_ok nn) key2
    unfold keepX at hk
    split at hk
    · split at hk
      · rename_i b w nn ty sz row hb
        simp only [Option.some.injEq, Prod.mk.injEq, V.tuple.injEq, List.cons.injEq, V.gs.injEq, and_true] at hk
        obtain ⟨⟨rfl, rfl⟩, rfl, rfl, rfl, rfl⟩ := hk
        exact hok.lastAtT (getB_some hb (by simp)) rfl rs_ro
      · cases hk
    · cases hk
  · rw [decide_eq_false he] at key
    rw [decide_eq_false he]
    obtain ⟨v1, h1, hk, hok⟩ := evalFn_ok (orcH_ok tabTl_ok plainL_ok) mixed Tryd.func44 (tlL_ok nn) key
    unfold keepX at hk
    split at hk
    · split at hk
      · cases hk
      · cases hk
    · cases hk
      exact hok.nilR rfl rs_ro
end Go.Proofs.YtnhilofmafjdpaaDoor
