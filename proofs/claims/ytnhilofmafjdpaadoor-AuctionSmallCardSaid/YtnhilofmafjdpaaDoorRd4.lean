/- Texts merged: Rd4, Rd5. -/
import Derived.Test.YtnhilofmafjdpaaDoorRd2
import Derived.Test.YtnhilofmafjdpaaDoorMd4
/- Chapter 9: auction.Read. -/
namespace Go.Proofs.YtnhilofmafjdpaaDoor
open Go Go.Eng
def lineR (s : ByteArray) (d : Int) (l : List Int) : Bool × Int × List Int := bif ckS s then cellsR [cvS s 0, cvS s 1, cvS s 2, cvS s 3] d l else (false, d, l)
def linesR : List ByteArray → Int → List Int → Bool × Int × List Int
  | [], d, l => (true, d, l)
  | s :: r, d, l => bif (lineR s d l).1 then linesR r (lineR s d l).2.1 (lineR s d l).2.2 else lineR s d l
theorem cellsR_len : ∀ (ts : List ByteArray) (d : Int) (l : List Int), (cellsR ts d l).2.2.length ≤ l.length + ts.length
  | [], d, l => by simp [cellsR]
  | t :: r, d, l => by
    simp only [cellsR, List.length_cons]
    have := cellR_len t d l
    cases (cellR t d l).1 with
    | true => have h2 := cellsR_len r (cellR t d l).2.1 (cellR t d l).2.2; simp only [cond_true]; omega
    | false => simp only [cond_false]; omega
theorem cellsR_d : ∀ (ts : List ByteArray) {d : Int} (_ : 0 ≤ d) (l : List Int), 0 ≤ (cellsR ts d l).2.1
  | [], d, h, l => by simpa [cellsR] using h
  | t :: r, d, h, l => by
    simp only [cellsR]
    have := cellR_d t h l
    cases (cellR t d l).1 with
    | true => exact cellsR_d r this _
    | false => exact h
theorem lineR_len (s : ByteArray) (d : Int) (l : List Int) : (lineR s d l).2.2.length ≤ l.length + 4 := by
  unfold lineR
  cases ckS s with
  | true => exact cellsR_len [cvS s 0, cvS s 1, cvS s 2, cvS s 3] d l
  | false => simp only [cond_false]; omega
theorem lineR_d (s : ByteArray) {d : Int} (h : 0 ≤ d) (l : List Int) : 0 ≤ (lineR s d l).2.1 := by
  unfold lineR
  cases ckS s with
  | true => exact cellsR_d _ h _
  | false => exact h
def r1Fin (v e : Int) (tl tb : List ByteArray) (q : Bool × Int × List Int) : XE × List PV := if q.1 = true then (.exit 0, [.i v, .i e, .i q.2.1, .ss tl, .ss tb, .l q.2.2]) else (.ret, [.i 0, .i 92, .i q.2.1, .ss tl, .ss tb, .l q.2.2])
theorem r1G_is {v e d n i : Int} {tb : List ByteArray} {l : List Int} {s : ByteArray} (hd : 0 ≤ d) (hl : l.length ≤ 999000) : r1G rN qN v e d n i textsL tb l s =
    bif (lineR s d l).1 then some (.normal, [.i v, .i e, .i (lineR s d l).2.1, .i n, .i (wr .i64 (i + 1)), .ss textsL, .ss tb, .l (lineR s d l).2.2], []) else some (.ret, [.i 0, .i 92, .i (lineR s d l).2.1, .ss textsL, .ss tb, .l (lineR s d l).2.2], []) := by
  unfold r1G lineR
  rw [show rN.CK s = ckS s from rfl]
  cases ckS s with
  | false => rfl
  | true =>
    rw [codesB_iff.2 (by intro x hx; simp at hx; rw [hx]), pB_iff.2 rfl, show qN.QC d l = true from decide_eq_true ⟨hd, hl⟩]
    rfl
theorem r1_loop (nn : Bool) (rd : Option Nat) (v e : Int) (tb : List ByteArray) (ht : tb.length ≤ 100000) : ∀ x : Nat × Int × List Int, (x.1 ≤ tb.length ∧ 0 ≤ x.2.1 ∧ x.2.2.length ≤ 4 * x.1) →
    SimC Tryd.prog 2 rd (.loop r1Lp) ((r1T nn).at [.i v, .i e, .i x.2.1, .i (tb.length : Int), .i (x.1 : Int), .ss textsL, .ss tb, .l x.2.2]) (r1Fin v e textsL tb (linesR (tb.drop x.1) x.2.1 x.2.2)).1 ((r1X nn).at (r1Fin v e textsL tb (linesR (tb.drop x.1) x.2.1 x.2.2)).2) := by
  refine loop_of_rounds (C := orcQ rN plainL) (L := q2L qN nn) (N := 100) (me := 29) (T := r1T nn) (T' := r1X nn) (orcQ_ok plainL_ok) mixed (q2L_ok nn) (by cases nn <;> kernel_rfl) (by cases nn <;> kernel_rfl) (X := Nat × Int × List Int)
    (fun x => [.i v, .i e, .i x.2.1, .i (tb.length : Int), .i (x.1 : Int), .ss textsL, .ss tb, .l x.2.2]) (fun x => x.1 ≤ tb.length ∧ 0 ≤ x.2.1 ∧ x.2.2.length ≤ 4 * x.1) (fun x => tb.length - x.1) (fun x => r1Fin v e textsL tb (linesR (tb.drop x.1) x.2.1 x.2.2)) ?_
  rintro ⟨i, d, l⟩ ⟨hi, hd, hl⟩
  dsimp only at hi hd hl ⊢
  have h := r1_round rN qN nn rd v e d (tb.length : Int) (i : Int) textsL tb l
  rcases Nat.lt_or_ge i tb.length with hlt | hge
  · rw [decide_eq_true (show (i : Int) < (tb.length : Int) by omega), cond_true, atS_at hlt, r1G_is hd (by omega), wr64 (by omega) (by omega)] at h
    rw [List.drop_eq_getElem_cons hlt]
    simp only [linesR]
    have hln := lineR_len tb[i] d l
    have hd' := lineR_d tb[i] hd l
    generalize lineR tb[i] d l = q at *
    obtain ⟨b, d', l'⟩ := q
    cases b with
    | true => exact ⟨_, _, _, h, codes0, .inl ⟨rfl, (i + 1, d', l'), rfl, ⟨by simp only; omega, hd', by simp only at hln ⊢; omega⟩, by simp only; omega, rfl⟩⟩
    | false => exact ⟨_, _, _, h, codes0, .inr ⟨by simp, rfl⟩⟩
  · rw [decide_eq_false (show ¬ (i : Int) < (tb.length : Int) by omega), cond_false] at h
    refine ⟨_, _, _, h, codes0, .inr ⟨by simp, ?_⟩⟩
    rw [List.drop_eq_nil_of_le (by omega)]; rfl
structure WN where
  WC : List ByteArray → Bool
  WK : List ByteArray → Bool
  WD : List ByteArray → Int
  WL : List ByteArray → List Int
  EQ : List ByteArray → List ByteArray → Bool
def wC (tb : List ByteArray) : Bool := decide (tb.length ≤ 100000)
def wN : WN := ⟨wC, fun tb => (linesR tb 0 []).1, fun tb => (linesR tb 0 []).2.1, fun tb => (linesR tb 0 []).2.2, eqS⟩
noncomputable def r1Tree (W : WN) (nn : Bool) : List PV → Fin
  | [.i v, .i e, .i d, .i n, .i i, .ss tl, .ss tb, .l l] => .br (decide (i = 0 ∧ d = 0 ∧ n = Int.ofNat tb.length ∧ l.length = 0) && (pB (tl = textsL) && W.WC tb)) (.br (W.WK tb) (.leaf (.exit 0) ((r1X nn).at [.i v, .i e, .i (W.WD tb), .ss tl, .ss tb, .l (W.WL tb)])) (.leaf .ret ((r1X nn).at [.i 0, .i 92, .i (W.WD tb), .ss tl, .ss tb, .l (W.WL tb)]))) .no
  | _ => .no
noncomputable def r3Tree (W : WN) (nn : Bool) : List PV → Fin
  | [.i v, .i e, .i d, .i n, .i i, .ss tl, .ss tb, .l l, .ss ag] => .br (decide (i = 0 ∧ n = Int.ofNat ag.length ∧ ag.length = tb.length ∧ ag.length ≤ 1000000)) (.br (W.EQ ag tb) (.leaf (.exit 5) ((r3X nn).at [.i v, .i e, .i d, .ss tl, .ss tb, .l l])) (.leaf .ret ((r3X nn).at [.i 0, .i 92, .i d, .ss tl, .ss tb, .l l]))) .no
  | _ => .no
noncomputable def rdL (W : WN) (nn : Bool) : Loops := sums (fun n => match n with | 6 => some (lsumF 2 (r1T nn) r1Lp (r1Tree W nn)) | 27 => some (lsumF 2 (r3T nn) r3Lp (r3Tree W nn)) | _ => none)
theorem rdL_ok (nn : Bool) : loopsOk Tryd.prog (rdL wN nn) := by
  intro n g hg
  simp only [rdL, sums] at hg
  split at hg
  · cases hg
    refine lsumF_ok (by cases nn <;> kernel_rfl) (fun rd ps e1 st1 hq => ?_)
    unfold r1Tree at hq
    split at hq
    · rename_i v e d n i tl tb l
      simp only [Fin.pick] at hq
      cases hc : (decide (i = 0 ∧ d = 0 ∧ n = Int.ofNat tb.length ∧ l.length = 0) && (pB (tl = textsL) && wN.WC tb)) with
      | false => rw [hc] at hq; cases hq
      | true =>
        rw [hc, cond_true] at hq
        simp only [Bool.and_eq_true, decide_eq_true_eq, pB_iff, show wN.WC tb = decide (tb.length ≤ 100000) from rfl] at hc
        obtain ⟨⟨rfl, rfl, rfl, hl⟩, rfl, ht⟩ := hc
        obtain rfl := List.eq_nil_of_length_eq_zero hl
        have h := r1_loop nn rd v e tb ht (0, 0, []) ⟨by simp, by simp, by simp⟩
        dsimp only at h
        rw [List.drop_zero] at h
        simp only [wN] at hq
        unfold r1Fin at h
        generalize linesR tb 0 [] = q at hq h
        obtain ⟨b, d', l'⟩ := q
        cases b with
        | true => cases hq; exact h
        | false => cases hq; exact h
    · cases hq
  · cases hg
    refine lsumF_ok (by cases nn <;> kernel_rfl) (fun rd ps e1 st1 hq => ?_)
    unfold r3Tree at hq
    split at hq
    · rename_i v e d n i tl tb l ag
      simp only [Fin.pick] at hq
      cases hc : decide (i = 0 ∧ n = Int.ofNat ag.length ∧ ag.length = tb.length ∧ ag.length ≤ 1000000) with
      | false => rw [hc] at hq; cases hq
      | true =>
        rw [hc, cond_true] at hq
        simp only [decide_eq_true_eq] at hc
        obtain ⟨rfl, rfl, h1, h2⟩ := hc
        have h := r3_loop nn rd v e d tl tb ag l h1 h2 0 (Nat.zero_le _)
        rw [List.drop_zero, List.drop_zero] at h
        simp only [wN] at hq
        unfold r3Fin at h
        cases hb : eqS ag tb with
        | true => rw [hb] at h hq; cases hq; exact h
        | false => rw [hb] at h hq; cases hq; exact h
    · cases hq
  · cases hg
/-- The answer, and its slice's row. -/
def keepY (v : V) (h : List Blk) : Option (V × Option (Bool × TypeId × Nat × Row)) := match v with
  | .tuple [w, .gs b, u] => match getB h b with
    | .grow nn ty sz row => some (.tuple [w, .gs b, u], some (nn, ty, sz, row))
    | _ => none
  | .tuple [w, .flat x, u] => some (.tuple [w, .flat x, u], none)
  | _ => none
noncomputable def rdBad : Option (V × Option (Bool × TypeId × Nat × Row)) := some (.tuple [.int .u8 0, .flat (.slice none 0 0), .int .i64 92], none)
noncomputable def rdX (R : RN) (W : WN) (d : Int) (l : List Int) (tb : List ByteArray) : Option (V × Option (Bool × TypeId × Nat × Row)) :=
  bif pB (textsL = textsL) && (R.N.K d l && R.N.KT l) then bif !decide (R.N.BE d l = 0) then rdBad else bif !decide (Int.ofNat (R.N.BV d l).length = Int.ofNat tb.length) then rdBad else
    cond (codesB [(r3Lp, r3Lp)]) (bif decide ((0 : Int) = 0 ∧ Int.ofNat (R.N.BV d l).length = Int.ofNat (R.N.BV d l).length ∧ (R.N.BV d l).length = tb.length ∧ (R.N.BV d l).length ≤ 1000000) then bif W.EQ (R.N.BV d l) tb then some (.tuple [.int .u8 d, .gs 2, .int .i64 0], some (false, 5, 1, .ints .u8 l)) else rdBad else none) none else none
theorem read29_eval (R : RN) (W : WN) (nn : Bool) (tb : List ByteArray) : evalFn Tryd.prog (orcQ R plainL) (rdL W nn) 100 29 Tryd.f29 [.gs 1] (gH ++ [.rs nn 1 (.strs tb)]) keepY =
    bif decide (81 < Int.ofNat tb.length) then rdBad else cond (codesB [(r1Lp, r1Lp)]) (bif decide ((0 : Int) = 0 ∧ (0 : Int) = 0 ∧ Int.ofNat tb.length = Int.ofNat tb.length ∧ ([] : List Int).length = 0) && (pB (textsL = textsL) && W.WC tb) then
      bif W.WK tb then rdX R W (W.WD tb) (W.WL tb) tb else rdBad else none) none := by cases nn <;> kernel_rfl
end Go.Proofs.YtnhilofmafjdpaaDoor

/- Chapter 9: auction.Read's contract. -/
namespace Go.Proofs.YtnhilofmafjdpaaDoor
open Go Go.Eng
theorem rdF_lt : ∀ (l : List ByteArray) (k : Nat) (s : ByteArray) (j : Nat), rdF l k s = some j → j < k + l.length
  | [], _, _, _, h => by cases h
  | t :: r, k, s, j, h => by
    simp only [rdF] at h
    cases hc : strEq t s with
    | true => rw [hc] at h; cases h; simp
    | false => rw [hc] at h; have := rdF_lt r (k + 1) s j h; simp only [List.length_cons]; omega
theorem rdC_range (s : ByteArray) : 0 ≤ rdC s ∧ rdC s ≤ 37 := by
  unfold rdC
  cases h : rdF textsL 0 s with
  | none => simp
  | some j => have := rdF_lt _ _ _ _ h; have e : textsL.length = 38 := rfl; simp only; omega
theorem allU_snoc {l : List Int} (h : allU l = true) {c : Int} (hc : 0 ≤ c ∧ c < 256) : allU (l ++ [c]) = true := by
  rw [allU_iff] at h ⊢
  intro x hx
  rcases List.mem_append.1 hx with hx | hx
  · exact h x hx
  · rw [List.mem_singleton.1 hx]; exact hc
theorem cellR_U (t : ByteArray) (d : Int) {l : List Int} (h : allU l = true) : allU (cellR t d l).2.2 = true := by
  have := rdC_range t
  have h2 := allU_snoc h (c := rdC t) (by omega)
  unfold cellR
  cases (strEq t dashS && decide (d < 3)) <;> cases decide (rdE t = 0) <;> cases (!strEq t askS && !strEq t noS) <;> first | exact h | exact h2
theorem cellsR_U : ∀ (ts : List ByteArray) (d : Int) {l : List Int} (_ : allU l = true), allU (cellsR ts d l).2.2 = true
  | [], d, l, h => h
  | t :: r, d, l, h => by
    simp only [cellsR]
    have := cellR_U t d h
    cases (cellR t d l).1 with
    | true => exact cellsR_U r _ this
    | false => exact h
theorem lineR_U (s : ByteArray) (d : Int) {l : List Int} (h : allU l = true) : allU (lineR s d l).2.2 = true := by
  unfold lineR
  cases ckS s with
  | true => exact cellsR_U _ _ h
  | false => exact h
theorem linesR_ok : ∀ (tb : List ByteArray) {d : Int} (_ : 0 ≤ d) {l : List Int} (_ : allU l = true), 0 ≤ (linesR tb d l).2.1 ∧ allU (linesR tb d l).2.2 = true ∧ (linesR tb d l).2.2.length ≤ l.length + 4 * tb.length
  | [], d, h, l, hu => ⟨h, hu, by simp [linesR]⟩
  | s :: r, d, h, l, hu => by
    simp only [linesR]
    have h1 := lineR_d s h l
    have h2 := lineR_U s d hu
    have h3 := lineR_len s d l
    cases (lineR s d l).1 with
    | true =>
      obtain ⟨q1, q2, q3⟩ := linesR_ok r h1 h2
      exact ⟨q1, q2, by simp only [cond_true, List.length_cons]; omega⟩
    | false => exact ⟨h1, h2, by simp only [cond_false, List.length_cons]; omega⟩
def rOk (tb : List ByteArray) : Bool := decide (tb.length ≤ 81) && ((linesR tb 0 []).1 && (decide ((fol (linesR tb 0 []).2.1 (linesR tb 0 []).2.2).e = 0) && (decide ((tblV (fol (linesR tb 0 []).2.1 (linesR tb 0 []).2.2) (linesR tb 0 []).2.1 (linesR tb 0 []).2.2).length = tb.length) &&
  eqS (tblV (fol (linesR tb 0 []).2.1 (linesR tb 0 []).2.2) (linesR tb 0 []).2.1 (linesR tb 0 []).2.2) tb)))
def rvD (tb : List ByteArray) : Int := bif rOk tb then (linesR tb 0 []).2.1 else 0
def rvE (tb : List ByteArray) : Int := bif rOk tb then 0 else 92
def rvL (tb : List ByteArray) : List Int := bif rOk tb then (linesR tb 0 []).2.2 else []
theorem read29_key (nn : Bool) (tb : List ByteArray) : evalFn Tryd.prog (orcQ rN plainL) (rdL wN nn) 100 29 Tryd.f29 [.gs 1] (gH ++ [.rs nn 1 (.strs tb)]) keepY =
    bif rOk tb then some (.tuple [.int .u8 (rvD tb), .gs 2, .int .i64 0], some (false, 5, 1, .ints .u8 (rvL tb))) else rdBad := by
  rw [read29_eval]
  unfold rvD rvL
  by_cases h81 : 81 < tb.length
  · rw [decide_eq_true (show 81 < Int.ofNat tb.length by show 81 < (tb.length : Int); omega), show rOk tb = false by unfold rOk; rw [decide_eq_false (by omega)]; rfl]; rfl
  · rw [decide_eq_false (show ¬ 81 < Int.ofNat tb.length from fun h => by have : 81 < (tb.length : Int) := h; omega), lpCd, decide_eq_true ⟨rfl, rfl, rfl, rfl⟩, pB_iff.2 rfl, show wN.WC tb = true from decide_eq_true (by omega)]
    obtain ⟨q1, q2, q3⟩ := linesR_ok tb (d := 0) (by omega) (l := []) rfl
    simp only [List.length_nil] at q3
    unfold rOk
    simp only [wN]
    generalize linesR tb 0 [] = q at *
    obtain ⟨b, d, l⟩ := q
    simp only at q1 q2 q3 ⊢
    rw [decide_eq_true (show tb.length ≤ 81 by omega)]
    cases b with
    | false => rfl
    | true =>
      simp only [Bool.true_and, cond_true]
      unfold rdX
      dsimp only
      have hk : okA d l = true := by
        simp only [okA, smallL, Bool.and_eq_true, decide_eq_true_eq]
        exact ⟨by omega, by omega, q2⟩
      rw [pB_iff.2 rfl, show rN.N.K d l = true from hk, show rN.N.KT l = true from decide_eq_true (by omega), show rN.N.BE d l = tblE (fol d l) from rfl, show rN.N.BV d l = tblV (fol d l) d l from rfl]
      by_cases he : (fol d l).e = 0
      · rw [show tblE (fol d l) = 0 by unfold tblE; rw [decide_eq_true he]; rfl, decide_eq_true he]
        by_cases hl : (tblV (fol d l) d l).length = tb.length
        · rw [decide_eq_true hl, decide_eq_true (show Int.ofNat (tblV (fol d l) d l).length = Int.ofNat tb.length by rw [hl]), lpCd, decide_eq_true (show (0 : Int) = 0 ∧ Int.ofNat (tblV (fol d l) d l).length = Int.ofNat (tblV (fol d l) d l).length ∧ (tblV (fol d l) d l).length = tb.length ∧ (tblV (fol d l) d l).length ≤ 1000000 from ⟨rfl, rfl, hl, by omega⟩)]
          cases eqS (tblV (fol d l) d l) tb <;> rfl
        · rw [decide_eq_false hl, decide_eq_false (show ¬ Int.ofNat (tblV (fol d l) d l).length = Int.ofNat tb.length from fun h => hl (by have : ((tblV (fol d l) d l).length : Int) = (tb.length : Int) := h; omega))]; rfl
      · rw [show tblE (fol d l) = 2 by unfold tblE; rw [decide_eq_false he]; rfl, decide_eq_false he]; rfl
theorem gR_ro {nn : Bool} {tb : List ByteArray} : ∀ (b : Nat) blk, (gH ++ [.rs nn 1 (.strs tb)] : List Blk)[b]? = some blk → blk.mine = false := by
  intro b blk hb
  match b, hb with
  | 0, hb => cases hb; rfl
  | 1, hb => cases hb; rfl
  | _ + 2, hb => simp [gH] at hb
theorem read29_fn (nn : Bool) (tb : List ByteArray) : FnOK Tryd.prog 29 [.gs 1] (gH ++ [.rs nn 1 (.strs tb)]) (.tuple [.int .u8 (rvD tb), .gs 2, .int .i64 (rvE tb)]) (gH ++ [.rs nn 1 (.strs tb)] ++ [.grow false 5 1 (.ints .u8 (rvL tb))]) := by
  have key := read29_key nn tb
  cases hr : rOk tb with
  | false =>
    rw [hr] at key
    obtain ⟨v1, h1, hk, hok⟩ := evalFn_ok (orcQ_ok plainL_ok) mixed Tryd.func29 (rdL_ok nn) key
    unfold keepY at hk
    split at hk
    · split at hk
      · cases hk
      · cases hk
    · simp only [Option.some.injEq, Prod.mk.injEq, V.tuple.injEq, List.cons.injEq, V.flat.injEq, and_true] at hk
      obtain ⟨rfl, rfl, rfl⟩ := hk
      have h := FnOK.nilL (ty := 5) (row := .ints .u8 []) rfl (pre := [.int .u8 0]) (post := [.int .i64 92]) rfl rfl hok gR_ro
      unfold rvD rvE rvL
      rw [hr]
      exact h
    · cases hk
  | true =>
    rw [hr] at key
    obtain ⟨v1, h1, hk, hok⟩ := evalFn_ok (orcQ_ok plainL_ok) mixed Tryd.func29 (rdL_ok nn) key
    unfold keepY at hk
    split at hk
    · split at hk
      · rename_i b u nn' ty sz row hb
        simp only [Option.some.injEq, Prod.mk.injEq, V.tuple.injEq, List.cons.injEq, V.gs.injEq, and_true] at hk
        obtain ⟨⟨rfl, rfl, rfl⟩, rfl, rfl, rfl, rfl⟩ := hk
        have h := FnOK.lastAtL (n2 := false) (fun h => by cases h) (pre := [.int .u8 (rvD tb)]) (post := [.int .i64 0]) rfl rfl hok (getB_some hb (by simp)) rfl gR_ro
        rw [show rvE tb = 0 by unfold rvE; rw [hr]; rfl]
        exact h
      · cases hk
    · cases hk
    · cases hk
end Go.Proofs.YtnhilofmafjdpaaDoor
