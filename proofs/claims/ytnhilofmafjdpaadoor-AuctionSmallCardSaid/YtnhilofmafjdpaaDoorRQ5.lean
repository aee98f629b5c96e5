/- Texts merged: RQ5, RQ6. -/
import Derived.Test.YtnhilofmafjdpaaDoorRQ3
/- Chapter 9: the reference's Read: its contract: what auction.Read answers. -/
namespace Go.Proofs.YtnhilofmafjdpaaDoor
open Go Go.Eng
theorem w3_round (Q : QR) (nn : Bool) (rd : Option Nat) (v e d i : Int) (tb ag : List ByteArray) (l : List Int) : roundT Tryd.prog (orcR4 Q plainL) noLoops 100 1 rd 54 w3Lp (w3T nn) (w3X nn) [.i v, .i e, .i d, .i i, .ss tb, .l l, .ss ag] =
    bif decide (i < Int.ofNat tb.length) then atS ag i (fun x => atS tb i (fun y => bif !strEq x y then some (.ret, [.i 0, .i 92, .i d, .ss tb, .l l], []) else some (.normal, [.i v, .i e, .i d, .i (wr .i64 (i + 1)), .ss tb, .l l, .ss ag], []))) else some (.exit 4, [.i v, .i e, .i d, .ss tb, .l l], []) := by cases nn <;> kernel_rfl
def w3Fin (v e d : Int) (tb : List ByteArray) (l : List Int) (b : Bool) : XE × List PV := if b = true then (.exit 4, [.i v, .i e, .i d, .ss tb, .l l]) else (.ret, [.i 0, .i 92, .i d, .ss tb, .l l])
theorem w3_loop (nn : Bool) (rd : Option Nat) (v e d : Int) (tb ag : List ByteArray) (l : List Int) (hl : ag.length = tb.length) (hb : ag.length ≤ 1000000) : ∀ i : Nat, i ≤ ag.length →
    SimC Tryd.prog 1 rd (.loop w3Lp) ((w3T nn).at [.i v, .i e, .i d, .i (i : Int), .ss tb, .l l, .ss ag]) (w3Fin v e d tb l (eqS (ag.drop i) (tb.drop i))).1 ((w3X nn).at (w3Fin v e d tb l (eqS (ag.drop i) (tb.drop i))).2) := by
  refine loop_of_rounds (C := orcR4 qR plainL) (L := noLoops) (N := 100) (me := 54) (T := w3T nn) (T' := w3X nn) (orcR4_ok plainL_ok) mixed noLoops_ok (by cases nn <;> kernel_rfl) (by cases nn <;> kernel_rfl) (X := Nat)
    (fun i => [.i v, .i e, .i d, .i (i : Int), .ss tb, .l l, .ss ag]) (fun i => i ≤ ag.length) (fun i => ag.length - i) (fun i => w3Fin v e d tb l (eqS (ag.drop i) (tb.drop i))) ?_
  intro i hi
  have h := w3_round qR nn rd v e d (i : Int) tb ag l
  rw [show Int.ofNat tb.length = (tb.length : Int) from rfl] at h
  rcases Nat.lt_or_ge i ag.length with hlt | hge
  · rw [decide_eq_true (show (i : Int) < (tb.length : Int) by omega), cond_true, atS_at hlt, atS_at (show i < tb.length by omega), wr64 (by omega) (by omega)] at h
    have e : eqS (ag.drop i) (tb.drop i) = (strEq ag[i] tb[i] && eqS (ag.drop (i + 1)) (tb.drop (i + 1))) := by
      rw [List.drop_eq_getElem_cons hlt, List.drop_eq_getElem_cons (show i < tb.length by omega)]; rfl
    rw [e]
    cases hb : strEq ag[i] tb[i] with
    | true =>
      rw [hb] at h
      exact ⟨_, _, _, h, codes0, .inl ⟨rfl, i + 1, rfl, by omega, by omega, by rw [Bool.true_and]⟩⟩
    | false =>
      rw [hb] at h
      exact ⟨_, _, _, h, codes0, .inr ⟨by simp, rfl⟩⟩
  · rw [decide_eq_false (show ¬ (i : Int) < (tb.length : Int) by omega), cond_false] at h
    refine ⟨_, _, _, h, codes0, .inr ⟨by simp, ?_⟩⟩
    rw [List.drop_eq_nil_of_le (by omega), List.drop_eq_nil_of_le (by omega)]; rfl
def wQ : WN := ⟨wC, fun tb => (rfQ tb).1, fun tb => (rfQ tb).2.1, fun tb => (rfQ tb).2.2, eqS⟩
noncomputable def w1Tree (W : WN) (nn : Bool) : List PV → Fin
  | [.i v, .i e, .i d, .b en, .i i, .ss tb, .l l] => .br (decide (i = 0 ∧ d = 0 ∧ l.length = 0) && (!en && W.WC tb)) (.br (W.WK tb) (.leaf (.exit 0) ((w1X nn).at [.i v, .i e, .i (W.WD tb), .ss tb, .l (W.WL tb)])) (.leaf .ret ((w1X nn).at [.i 0, .i 92, .i (W.WD tb), .ss tb, .l (W.WL tb)]))) .no
  | _ => .no
noncomputable def w3Tree (W : WN) (nn : Bool) : List PV → Fin
  | [.i v, .i e, .i d, .i i, .ss tb, .l l, .ss ag] => .br (decide (i = 0 ∧ ag.length = tb.length ∧ ag.length ≤ 1000000)) (.br (W.EQ ag tb) (.leaf (.exit 4) ((w3X nn).at [.i v, .i e, .i d, .ss tb, .l l])) (.leaf .ret ((w3X nn).at [.i 0, .i 92, .i d, .ss tb, .l l]))) .no
  | _ => .no
noncomputable def wwL (W : WN) (nn : Bool) : Loops := sums (fun n => match n with | 5 => some (lsumF 1 (w1T nn) w1Lp (w1Tree W nn)) | 25 => some (lsumF 1 (w3T nn) w3Lp (w3Tree W nn)) | _ => none)
theorem wwL_ok (nn : Bool) : loopsOk Tryd.prog (wwL wQ nn) := by
  intro n g hg
  simp only [wwL, sums] at hg
  split at hg
  · cases hg
    refine lsumF_ok (by cases nn <;> kernel_rfl) (fun rd ps e1 st1 hq => ?_)
    unfold w1Tree at hq
    split at hq
    · rename_i v e d en i tb l
      simp only [Fin.pick] at hq
      cases hc : (decide (i = 0 ∧ d = 0 ∧ l.length = 0) && (!en && wQ.WC tb)) with
      | false => rw [hc] at hq; cases hq
      | true =>
        rw [hc, cond_true] at hq
        simp only [Bool.and_eq_true, decide_eq_true_eq, Bool.not_eq_true', show wQ.WC tb = decide (tb.length ≤ 100000) from rfl] at hc
        obtain ⟨⟨rfl, rfl, hl⟩, rfl, ht⟩ := hc
        obtain rfl := List.eq_nil_of_length_eq_zero hl
        have h := w1_loop nn rd v e tb ht (0, 0, [], false) ⟨by simp, by simp, by simp, by simp⟩
        dsimp only at h
        simp only [cond_false, Nat.sub_zero] at h
        rw [show rfGo tb (4 * tb.length) 0 0 [] = rfQ tb from rfl] at h
        simp only [wQ] at hq
        unfold w1Fin at h
        generalize rfQ tb = q at hq h
        obtain ⟨b, d', l'⟩ := q
        cases b with
        | true => cases hq; exact h
        | false => cases hq; exact h
    · cases hq
  · cases hg
    refine lsumF_ok (by cases nn <;> kernel_rfl) (fun rd ps e1 st1 hq => ?_)
    unfold w3Tree at hq
    split at hq
    · rename_i v e d i tb l ag
      simp only [Fin.pick] at hq
      cases hc : decide (i = 0 ∧ ag.length = tb.length ∧ ag.length ≤ 1000000) with
      | false => rw [hc] at hq; cases hq
      | true =>
        rw [hc, cond_true] at hq
        simp only [decide_eq_true_eq] at hc
        obtain ⟨rfl, h1, h2⟩ := hc
        have h := w3_loop nn rd v e d tb ag l h1 h2 0 (Nat.zero_le _)
        rw [List.drop_zero, List.drop_zero] at h
        simp only [wQ] at hq
        unfold w3Fin at h
        cases hb : eqS ag tb with
        | true => rw [hb] at h hq; cases hq; exact h
        | false => rw [hb] at h hq; cases hq; exact h
    · cases hq
  · cases hg
noncomputable def rqX (Q : QR) (W : WN) (d : Int) (l : List Int) (tb : List ByteArray) : Option (V × Option (Bool × TypeId × Nat × Row)) :=
  bif Q.KR d l then bif !decide (Q.BE d l = 0) then rdBad else bif !decide (Int.ofNat (Q.BV d l).length = Int.ofNat tb.length) then rdBad else
    cond (codesB [(w3Lp, w3Lp)]) (bif decide ((0 : Int) = 0 ∧ (Q.BV d l).length = tb.length ∧ (Q.BV d l).length ≤ 1000000) then bif W.EQ (Q.BV d l) tb then some (.tuple [.int .u8 d, .gs 1, .int .i64 0], some (false, 5, 1, .ints .u8 l)) else rdBad else none) none else none
theorem read54_eval (Q : QR) (W : WN) (nn : Bool) (tb : List ByteArray) : evalFn Tryd.prog (orcR4 Q plainL) (wwL W nn) 100 54 Tryd.f54 [.gs 0] [.rs nn 1 (.strs tb)] keepY =
    cond (codesB [(w1Lp, w1Lp)]) (bif decide ((0 : Int) = 0 ∧ (0 : Int) = 0 ∧ ([] : List Int).length = 0) && (!false && W.WC tb) then bif W.WK tb then rqX Q W (W.WD tb) (W.WL tb) tb else rdBad else none) none := by cases nn <;> kernel_rfl
end Go.Proofs.YtnhilofmafjdpaaDoor

/- Chapter 9: the reference's Read: its contract. -/
namespace Go.Proofs.YtnhilofmafjdpaaDoor
open Go Go.Eng
theorem read54_key (nn : Bool) (tb : List ByteArray) (ht : tb.length ≤ 100000) : evalFn Tryd.prog (orcR4 qR plainL) (wwL wQ nn) 100 54 Tryd.f54 [.gs 0] [.rs nn 1 (.strs tb)] keepY =
    bif rOk tb then some (.tuple [.int .u8 (rvD tb), .gs 1, .int .i64 0], some (false, 5, 1, .ints .u8 (rvL tb))) else rdBad := by
  rw [read54_eval, lpCd, show wQ.WC tb = true from decide_eq_true ht]
  obtain ⟨r1, r2⟩ := rf_is tb
  obtain ⟨q1, q2, q3⟩ := rfGo_ok tb (4 * tb.length) 0 0 [] (by omega) rfl (by simp)
  rw [show rfGo tb (4 * tb.length) 0 0 [] = rfQ tb from rfl] at q1 q2 q3
  rw [← r1] at r2
  rw [← r1]
  unfold rfOk at r2 ⊢
  have hW : wQ.WK tb = (rfQ tb).1 ∧ wQ.WD tb = (rfQ tb).2.1 ∧ wQ.WL tb = (rfQ tb).2.2 := ⟨rfl, rfl, rfl⟩
  rw [hW.1, hW.2.1, hW.2.2]
  generalize rfQ tb = q at *
  obtain ⟨b, d, l⟩ := q
  dsimp only at q1 q2 q3 r2 ⊢
  cases b with
  | false => rfl
  | true =>
    simp only [Bool.true_and, cond_true, Bool.not_false, Bool.and_self, List.length_nil] at r2 ⊢
    unfold rqX
    have hk : kR d l = true := by
      unfold kR
      simp only [okA, smallL, Bool.and_eq_true, decide_eq_true_eq]
      exact ⟨⟨q1, by omega, q2⟩, by omega⟩
    rw [show qR.KR d l = true from hk, show qR.BE d l = tblE (fol d l) from rfl, show qR.BV d l = tblV (fol d l) d l from rfl]
    by_cases he : (fol d l).e = 0
    · rw [show tblE (fol d l) = 0 by unfold tblE; rw [decide_eq_true he]; rfl]
      rw [decide_eq_true he] at r2 ⊢
      by_cases hl : (tblV (fol d l) d l).length = tb.length
      · rw [decide_eq_true (show Int.ofNat (tblV (fol d l) d l).length = Int.ofNat tb.length by rw [hl]), lpCd, decide_eq_true (show (0 : Int) = 0 ∧ (tblV (fol d l) d l).length = tb.length ∧ (tblV (fol d l) d l).length ≤ 1000000 from ⟨rfl, hl, by omega⟩)]
        rw [decide_eq_true hl] at r2 ⊢
        rw [show wQ.EQ (tblV (fol d l) d l) tb = eqS (tblV (fol d l) d l) tb from rfl]
        simp only [Bool.true_and] at r2 ⊢
        cases hs : eqS (tblV (fol d l) d l) tb with
        | true =>
          obtain ⟨e1, e2⟩ := r2 hs
          rw [← e1, ← e2]; rfl
        | false => rfl
      · rw [decide_eq_false hl, decide_eq_false (show ¬ Int.ofNat (tblV (fol d l) d l).length = Int.ofNat tb.length from fun h => hl (by have : ((tblV (fol d l) d l).length : Int) = (tb.length : Int) := h; omega))]; rfl
    · rw [show tblE (fol d l) = 2 by unfold tblE; rw [decide_eq_false he]; rfl, decide_eq_false he]; rfl
theorem read54_fn (nn : Bool) {tb : List ByteArray} (ht : tb.length ≤ 100000) : FnOK Tryd.prog 54 [.gs 0] [.rs nn 1 (.strs tb)] (.tuple [.int .u8 (rvD tb), .gs 1, .int .i64 (rvE tb)]) ([.rs nn 1 (.strs tb)] ++ [.grow false 5 1 (.ints .u8 (rvL tb))]) := by
  have key := read54_key nn tb ht
  cases hr : rOk tb with
  | false =>
    rw [hr] at key
    obtain ⟨v1, h1, hk, hok⟩ := evalFn_ok (orcR4_ok plainL_ok) mixed Tryd.func54 (wwL_ok nn) key
    unfold keepY at hk
    split at hk
    · split at hk
      · cases hk
      · cases hk
    · simp only [Option.some.injEq, Prod.mk.injEq, V.tuple.injEq, List.cons.injEq, V.flat.injEq, and_true] at hk
      obtain ⟨rfl, rfl, rfl⟩ := hk
      have h := FnOK.nilL (ty := 5) (row := .ints .u8 []) rfl (pre := [.int .u8 0]) (post := [.int .i64 92]) rfl rfl hok rs_ro
      unfold rvD rvE rvL
      rw [hr]
      exact h
    · cases hk
  | true =>
    rw [hr] at key
    obtain ⟨v1, h1, hk, hok⟩ := evalFn_ok (orcR4_ok plainL_ok) mixed Tryd.func54 (wwL_ok nn) key
    unfold keepY at hk
    split at hk
    · split at hk
      · rename_i b u nn' ty sz row hb
        simp only [Option.some.injEq, Prod.mk.injEq, V.tuple.injEq, List.cons.injEq, V.gs.injEq, and_true] at hk
        obtain ⟨⟨rfl, rfl, rfl⟩, rfl, rfl, rfl, rfl⟩ := hk
        have h := FnOK.lastAtL (n2 := false) (fun h => by cases h) (pre := [.int .u8 (rvD tb)]) (post := [.int .i64 0]) rfl rfl hok (getB_some hb (by simp)) rfl rs_ro
        rw [show rvE tb = 0 by unfold rvE; rw [hr]; rfl]
        exact h
      · cases hk
    · cases hk
    · cases hk
end Go.Proofs.YtnhilofmafjdpaaDoor
