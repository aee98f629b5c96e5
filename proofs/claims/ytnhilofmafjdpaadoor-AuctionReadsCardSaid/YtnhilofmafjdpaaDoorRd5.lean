/- Chapter 9: auction.Read's contract. -/
import Derived.Test.YtnhilofmafjdpaaDoorRd4
import Derived.Test.YtnhilofmafjdpaaDoorMd4
namespace Go.Proofs.YtnhilofmafjdpaaDoor
open Go Go.Eng
theorem rdF_lt : ∀ (l : List ByteArray) (k : Nat) (s : ByteArray) (j : Nat), rdF l k s = some j → j < k + l.length
  | [], _, _, _, h => by cases h
  | t :: r, k, s, j, h => by
    simp only [rdF] at h
    cases hc : strEq t s with
    | true => rw [hc] at h; cases h; simp
    | false => rw [hc] at h; have := rdF_lt r (k + 1) s j h; simp only [List.length_cons]; omega
theorem rdC_range (s : ByteArray) : 0 ≤ rdC s ∧ rdC s ≤ 37 := by
  unfold rdC
  cases h : rdF textsL 0 s with
  | none => simp
  | some j => have := rdF_lt _ _ _ _ h; have e : textsL.length = 38 := rfl; simp only; omega
theorem allU_snoc {l : List Int} (h : allU l = true) {c : Int} (hc : 0 ≤ c ∧ c < 256) : allU (l ++ [c]) = true := by
  rw [allU_iff] at h ⊢
  intro x hx
  rcases List.mem_append.1 hx with hx | hx
  · exact h x hx
  · rw [List.mem_singleton.1 hx]; exact hc
theorem cellR_U (t : ByteArray) (d : Int) {l : List Int} (h : allU l = true) : allU (cellR t d l).2.2 = true := by
  have := rdC_range t
  have h2 := allU_snoc h (c := rdC t) (by omega)
  unfold cellR
  cases (strEq t dashS && decide (d < 3)) <;> cases decide (rdE t = 0) <;> cases (!strEq t askS && !strEq t noS) <;> first | exact h | exact h2
theorem cellsR_U : ∀ (ts : List ByteArray) (d : Int) {l : List Int} (_ : allU l = true), allU (cellsR ts d l).2.2 = true
  | [], d, l, h => h
  | t :: r, d, l, h => by
    simp only [cellsR]
    have := cellR_U t d h
    cases (cellR t d l).1 with
    | true => exact cellsR_U r _ this
    | false => exact h
theorem lineR_U (s : ByteArray) (d : Int) {l : List Int} (h : allU l = true) : allU (lineR s d l).2.2 = true := by
  unfold lineR
  cases ckS s with
  | true => exact cellsR_U _ _ h
  | false => exact h
theorem linesR_ok : ∀ (tb : List ByteArray) {d : Int} (_ : 0 ≤ d) {l : List Int} (_ : allU l = true), 0 ≤ (linesR tb d l).2.1 ∧ allU (linesR tb d l).2.2 = true ∧ (linesR tb d l).2.2.length ≤ l.length + 4 * tb.length
  | [], d, h, l, hu => ⟨h, hu, by simp [linesR]⟩
  | s :: r, d, h, l, hu => by
    simp only [linesR]
    have h1 := lineR_d s h l
    have h2 := lineR_U s d hu
    have h3 := lineR_len s d l
    cases (lineR s d l).1 with
    | true =>
      obtain ⟨q1, q2, q3⟩ := linesR_ok r h1 h2
      exact ⟨q1, q2, by simp only [cond_true, List.length_cons]; omega⟩
    | false => exact ⟨h1, h2, by simp only [cond_false, List.length_cons]; omega⟩
def rOk (tb : List ByteArray) : Bool := decide (tb.length ≤ 81) && ((linesR tb 0 []).1 && (decide ((fol (linesR tb 0 []).2.1 (linesR tb 0 []).2.2).e = 0) && (decide ((tblV (fol (linesR tb 0 []).2.1 (linesR tb 0 []).2.2) (linesR tb 0 []).2.1 (linesR tb 0 []).2.2).length = tb.length) &&
  eqS (tblV (fol (linesR tb 0 []).2.1 (linesR tb 0 []).2.2) (linesR tb 0 []).2.1 (linesR tb 0 []).2.2) tb)))
def rvD (tb : List ByteArray) : Int := bif rOk tb then (linesR tb 0 []).2.1 else 0
def rvE (tb : List ByteArray) : Int := bif rOk tb then 0 else 92
def rvL (tb : List ByteArray) : List Int := bif rOk tb then (linesR tb 0 []).2.2 else []
theorem read29_key (nn : Bool) (tb : List ByteArray) : evalFn Tryd.prog (orcQ rN plainL) (rdL wN nn) 100 29 Tryd.f29 [.gs 1] (gH ++ [.rs nn 1 (.strs tb)]) keepY =
    bif rOk tb then some (.tuple [.int .u8 (rvD tb), .gs 2, .int .i64 0], some (false, 5, 1, .ints .u8 (rvL tb))) else rdBad := by
  rw [read29_eval]
  unfold rvD rvL
  by_cases h81 : 81 < tb.length
  · rw [decide_eq_true (show 81 < Int.ofNat tb.length by show 81 < (tb.length : Int); omega), show rOk tb = false by unfold rOk; rw [decide_eq_false (by omega)]; rfl]; rfl
  · rw [decide_eq_false (show ¬ 81 < Int.ofNat tb.length from fun h => by have : 81 < (tb.length : Int) := h; omega), lpCd, decide_eq_true ⟨rfl, rfl, rfl, rfl⟩, pB_iff.2 rfl, show wN.WC tb = true from decide_eq_true (by omega)]
    obtain ⟨q1, q2, q3⟩ := linesR_ok tb (d := 0) (by omega) (l := []) rfl
    simp only [List.length_nil] at q3
    unfold rOk
    simp only [wN]
    generalize linesR tb 0 [] = q at *
    obtain ⟨b, d, l⟩ := q
    simp only at q1 q2 q3 ⊢
    rw [decide_eq_true (show tb.length ≤ 81 by omega)]
    cases b with
    | false => rfl
    | true =>
      simp only [Bool.true_and, cond_true]
      unfold rdX
      dsimp only
      have hk : okA d l = true := by
        simp only [okA, smallL, Bool.and_eq_true, decide_eq_true_eq]
        exact ⟨by omega, by omega, q2⟩
      rw [pB_iff.2 rfl, show rN.N.K d l = true from hk, show rN.N.KT l = true from decide_eq_true (by omega), show rN.N.BE d l = tblE (fol d l) from rfl, show rN.N.BV d l = tblV (fol d l) d l from rfl]
      by_cases he : (fol d l).e = 0
      · rw [show tblE (fol d l) = 0 by unfold tblE; rw [decide_eq_true he]; rfl, decide_eq_true he]
        by_cases hl : (tblV (fol d l) d l).length = tb.length
        · rw [decide_eq_true hl, decide_eq_true (show Int.ofNat (tblV (fol d l) d l).length = Int.ofNat tb.length by rw [hl]), lpCd, decide_eq_true (show (0 : Int) = 0 ∧ Int.ofNat (tblV (fol d l) d l).length = Int.ofNat (tblV (fol d l) d l).length ∧ (tblV (fol d l) d l).length = tb.length ∧ (tblV (fol d l) d l).length ≤ 1000000 from ⟨rfl, rfl, hl, by omega⟩)]
          cases eqS (tblV (fol d l) d l) tb <;> rfl
        · rw [decide_eq_false hl, decide_eq_false (show ¬ Int.ofNat (tblV (fol d l) d l).length = Int.ofNat tb.length from fun h => hl (by have : ((tblV (fol d l) d l).length : Int) = (tb.length : Int) := h; omega))]; rfl
      · rw [show tblE (fol d l) = 2 by unfold tblE; rw [decide_eq_false he]; rfl, decide_eq_false he]; rfl
theorem gR_ro {nn : Bool} {tb : List ByteArray} : ∀ (b : Nat) blk, (gH ++ [.rs nn 1 (.strs tb)] : List Blk)[b]? = some blk → blk.mine = false := by
  intro b blk hb
  match b, hb with
  | 0, hb => cases hb; rfl
  | 1, hb => cases hb; rfl
  | _ + 2, hb => simp [gH] at hb
theorem read29_fn (nn : Bool) (tb : List ByteArray) : FnOK Tryd.prog 29 [.gs 1] (gH ++ [.rs nn 1 (.strs tb)]) (.tuple [.int .u8 (rvD tb), .gs 2, .int .i64 (rvE tb)]) (gH ++ [.rs nn 1 (.strs tb)] ++ [.grow false 5 1 (.ints .u8 (rvL tb))]) := by
  have key := read29_key nn tb
  cases hr : rOk tb with
  | false =>
    rw [hr] at key
    obtain ⟨v1, h1, hk, hok⟩ := evalFn_ok (orcQ_ok plainL_ok) mixed Tryd.func29 (rdL_ok nn) key
    unfold keepY at hk
    split at hk
    · split at hk
      · cases hk
      · cases hk
    · simp only [Option.some.injEq, Prod.mk.injEq, V.tuple.injEq, List.cons.injEq, V.flat.injEq, and_true] at hk
      obtain ⟨rfl, rfl, rfl⟩ := hk
      have h := FnOK.nilL (ty := 5) (row := .ints .u8 []) rfl (pre := [.int .u8 0]) (post := [.int .i64 92]) rfl rfl hok gR_ro
      unfold rvD rvE rvL
      rw [hr]
      exact h
    · cases hk
  | true =>
    rw [hr] at key
    obtain ⟨v1, h1, hk, hok⟩ := evalFn_ok (orcQ_ok plainL_ok) mixed Tryd.func29 (rdL_ok nn) key
    unfold keepY at hk
    split at hk
    · split at hk
      · rename_i b u nn' ty sz row hb
        simp only [Option.some.injEq, Prod.mk.injEq, V.tuple.injEq, List.cons.injEq, V.gs.injEq, and_true] at hk
        obtain ⟨⟨rfl, rfl, rfl⟩, rfl, rfl, rfl, rfl⟩ := hk
        have h := FnOK.lastAtL (n2 := false) (fun h => by cases h) (pre := [.int .u8 (rvD tb)]) (post := [.int .i64 0]) rfl rfl hok (getB_some hb (by simp)) rfl gR_ro
        rw [show rvE tb = 0 by unfold rvE; rw [hr]; rfl]
        exact h
      · cases hk
    · cases hk
    · cases hk
end Go.Proofs.YtnhilofmafjdpaaDoor
