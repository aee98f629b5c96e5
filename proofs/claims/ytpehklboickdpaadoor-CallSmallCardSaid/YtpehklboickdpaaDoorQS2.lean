/- Chapter 8: the law texts is true. -/
import Derived.Test.YtpehklboickdpaaDoorQS
namespace Go.Proofs.YtpehklboickdpaaDoor
open Go Go.Eng
noncomputable def lentE (MB : Int → Int → Int) : Nat → Int → List Int → (List Int → Option V) → Option V
  | 0, _, l, Z => Z l
  | n + 1, i, l, Z => bif decide ((l ++ [MB 1 i]).length * 2 ≤ 70368744177664) then lentE MB n (wr .i64 (i + 1)) (l ++ [MB 1 i]) Z else none
noncomputable def fY : Option V := some (.bool false)
noncomputable def txsZ (Y : YN) (xs : List Int) (s : ByteArray) (ws own : List Int) (q : Nat) : Option V :=
  bif decide (0 + q ≤ ws.length) then bif pB (textsL = textsL) && Y.N.tC own then bif Y.N.tC xs then bif pB (textsL = textsL) && Y.N.rC s then bif Y.N.rC s then bif pB (textsL = textsL) then
  bif !strEq (Y.N.tS own) (Y.N.tS xs) then fY else bif !decide (Y.N.tE own = Y.N.tE xs) then fY else bif Y.N.sC (Y.N.rV s) then bif !Y.N.eq (Y.N.rV s) (Y.N.rV s) then fY else bif !decide (Y.N.rE s = Y.N.rE s) then fY else
  bif !decide (Y.RC s = Y.RC s) then fY else bif !decide (Y.RE s = Y.RE s) then fY else bif pB (textsL = textsL) && Y.N.rC s then bif decide ((Y.N.rV s).length ≤ 70368744177664) then bif Y.N.sC (Y.N.rV s) then bif Y.N.eq (Y.N.rV s) (Y.N.rV s) then
  bif Y.KP ws xs && decide (q = xs.length) then some (.bool true) else none else fY else none else none else none else none else none else none else none else none else none else none
noncomputable def txsE (Y : YN) (MB : Int → Int → Int) (xs : List Int) (s : ByteArray) : Option V :=
  bif decide (0 ≤ (0 : Int) ∧ 0 ≤ wr .i64 (Int.ofNat xs.length + 12) ∧ wr .i64 (Int.ofNat xs.length + 12) * 2 ≤ 140737488355328) then bif decide (xs.length * 2 ≤ 70368744177664) then
  lentE MB 12 0 xs (fun ws => bif decide (0 ≤ (0 : Int) ∧ 0 ≤ Int.ofNat xs.length ∧ Int.ofNat xs.length ≤ Int.ofNat ws.length) then txsZ Y xs s ws (List.take ((Int.ofNat xs.length).toNat - 0) (List.drop 0 ws)) ((Int.ofNat xs.length).toNat - 0) else none) else none else none
theorem texts_eval (Y : YN) (MB : Int → Int → Int) (nn : Bool) (xs : List Int) (s : ByteArray) : evalFn Tryd.prog (orcY Y (tabY Y MB) plainL) noLoops 100 10 Tryd.f10 [.gs 1, .str s] (gH ++ [.rs nn 1 (.ints .u8 xs)]) (fun v _ => some v) = txsE Y MB xs s := by cases nn <;> kernel_rfl
def marksN (MB : Int → Int → Int) : Nat → Nat → List Int
  | 0, _ => []
  | n + 1, i => MB 1 (i : Int) :: marksN MB n (i + 1)
theorem lentE_is {MB : Int → Int → Int} {Z : List Int → Option V} : ∀ (n i : Nat) (l : List Int), l.length + n ≤ 1000000 → i + n ≤ 1000 → lentE MB n (i : Int) l Z = Z (l ++ marksN MB n i)
  | 0, i, l, _, _ => by simp [lentE, marksN]
  | n + 1, i, l, h1, h2 => by
    unfold lentE
    rw [decide_eq_true (show (l ++ [MB 1 (i : Int)]).length * 2 ≤ 70368744177664 by rw [List.length_append, List.length_singleton]; omega), wr64 (by omega) (by omega), cond_true, show (i : Int) + 1 = ((i + 1 : Nat) : Int) by omega,
      lentE_is n (i + 1) _ (by rw [List.length_append, List.length_singleton]; omega) (by omega)]
    simp [marksN]
theorem marksN_is (MB : Int → Int → Int) : marksN MB 12 0 = marks MB := rfl
def txsC (xs : List Int) (s : ByteArray) : Bool := allU xs && decide (xs.length ≤ 100000 ∧ lenS s ≤ 100000)
theorem texts_true (nn : Bool) {xs : List Int} {s : ByteArray} (h : txsC xs s = true) : evalFn Tryd.prog (orcY yN (tabY yN mbV) plainL) noLoops 100 10 Tryd.f10 [.gs 1, .str s] (gH ++ [.rs nn 1 (.ints .u8 xs)]) (fun v _ => some v) = some (.bool true) := by
  simp only [txsC, Bool.and_eq_true, decide_eq_true_eq] at h
  obtain ⟨hu, hl, hs⟩ := h
  have hof : Int.ofNat xs.length = (xs.length : Int) := rfl
  have hws : (xs ++ marks mbV).length = xs.length + 12 := by rw [List.length_append]; rfl
  have hown : List.take xs.length (List.drop 0 (xs ++ marks mbV)) = xs := by rw [List.drop_zero, List.take_append_of_le_length (Nat.le_refl _), List.take_length]
  have hV := raV_len s
  have hT : yN.N.tC xs = true := hu
  have hR : yN.N.rC s = true := decide_eq_true (by omega)
  have hS : yN.N.sC (yN.N.rV s) = true := decide_eq_true (show (raV s).length ≤ 1000000 by omega)
  have hE : yN.N.eq (yN.N.rV s) (yN.N.rV s) = true := eqI_iff.2 rfl
  have hP : yN.KP (xs ++ marks mbV) xs = true := by show kpC _ _ = true; unfold kpC; rw [decide_eq_true rfl, decide_eq_true (by omega)]; rfl
  rw [texts_eval]
  unfold txsE
  rw [hof, wr64 (x := (xs.length : Int) + 12) (by omega) (by omega), decide_eq_true (show 0 ≤ (0 : Int) ∧ 0 ≤ (xs.length : Int) + 12 ∧ ((xs.length : Int) + 12) * 2 ≤ 140737488355328 by omega), decide_eq_true (show xs.length * 2 ≤ 70368744177664 by omega)]
  simp only [cond_true]
  have hle := lentE_is (MB := mbV) (Z := fun ws => bif decide (0 ≤ (0 : Int) ∧ 0 ≤ (xs.length : Int) ∧ (xs.length : Int) ≤ Int.ofNat ws.length) then txsZ yN xs s ws (List.take (((xs.length : Int)).toNat - 0) (List.drop 0 ws)) (((xs.length : Int)).toNat - 0) else none) 12 0 xs (by omega) (by omega)
  refine Eq.trans hle ?_
  rw [marksN_is]
  rw [decide_eq_true (show 0 ≤ (0 : Int) ∧ 0 ≤ (xs.length : Int) ∧ (xs.length : Int) ≤ Int.ofNat (xs ++ marks mbV).length by refine ⟨by omega, by omega, ?_⟩; rw [hws]; show (xs.length : Int) ≤ ((xs.length + 12 : Nat) : Int); omega), show (((xs.length : Int)).toNat - 0) = xs.length from rfl, hown]
  simp only [cond_true]
  unfold txsZ
  rw [decide_eq_true (show 0 + xs.length ≤ (xs ++ marks mbV).length by omega), pB_iff.2 rfl, hT, hR, hS, hE, hP, strEqW.2 (rfl : yN.N.tS xs = yN.N.tS xs), decide_eq_true (show (yN.N.rV s).length ≤ 70368744177664 from Nat.le_trans hV (by omega)), decide_eq_true (rfl : xs.length = xs.length), decide_eq_true (rfl : yN.N.tE xs = yN.N.tE xs), decide_eq_true (rfl : yN.N.rE s = yN.N.rE s), decide_eq_true (rfl : yN.RC s = yN.RC s), decide_eq_true (rfl : yN.RE s = yN.RE s)]
  rfl
theorem texts_fn (nn : Bool) {xs : List Int} {s : ByteArray} (h : txsC xs s = true) : FnOK Tryd.prog 10 [.gs 1, .str s] (gH ++ [.rs nn 1 (.ints .u8 xs)]) (.bool true) (gH ++ [.rs nn 1 (.ints .u8 xs)]) := by
  obtain ⟨v1, e1, hk, hok⟩ := evalFn_ok (orcY_ok tabY_ok plainL_ok) mixed Tryd.func10 noLoops_ok (texts_true nn h)
  cases hk
  refine hok.plain rfl ?_
  intro b blk hb
  match b, hb with
  | 0, hb => cases hb; rfl
  | 1, hb => cases hb; rfl
  | _ + 2, hb => simp [gH] at hb
/-! ### the law -/
noncomputable def gTxs (C : List Int → ByteArray → Bool) : List V → List Blk → Option (Bool × V × List Blk)
  | [.gs 1, .str s], [.glob 0 (.strs l), .rs _ 1 (.ints .u8 xs)] => some (pB (l = textsL) && C xs s, .bool true, [])
  | _, _ => none
noncomputable def hTab3 (C : List Int → ByteArray → Bool) : HTab := addH 10 (gTxs C) (addH 11 gAwake emptyH)
theorem hTab3_ok : HTabOk Tryd.prog (hTab3 txsC) := by
  refine addH_ok ?_ (addH_ok ?_ emptyH_ok)
  · intro args h c v nb hq hc
    unfold gTxs at hq
    split at hq
    · cases hq
      simp only [Bool.and_eq_true, pB_iff] at hc
      obtain ⟨rfl, h1⟩ := hc
      exact ⟨.of Tryd.func10 (by kernel_rfl), by rw [List.append_nil]; exact texts_fn _ h1⟩
    · cases hq
  · intro args h c v nb hq hc
    unfold gAwake at hq
    split at hq
    · cases hq
      rw [pB_iff] at hc
      subst hc
      exact ⟨.of Tryd.func11 (by kernel_rfl), awake_fn⟩
    · cases hq
def dom3 : FuncId → Bool := fun f => Nat.beq f 10 || Nat.beq f 11
def gl3 : FuncId → List Nat := fun _ => [0]
noncomputable abbrev orc3 (C : List Int → ByteArray → Bool) (P : PTab) (LL : FuncId → Loops) : Oracle := inl Tryd.prog ftab P LL 100 never dom3 (hOrcN gl3 nrB (hTab3 C)) 20
theorem orc3_ok {P : PTab} (hP : PTabOk Tryd.prog P) {LL : FuncId → Loops} (hL : ∀ f, loopsOk Tryd.prog (LL f)) : OracleOk Tryd.prog (orc3 txsC P LL) := inl_ok (hOrcN_ok hTab3_ok) ftab_ok hP hL mixed 20
theorem callTexts_eval (C : List Int → ByteArray → Bool) (nn : Bool) (xs : List Int) (s : ByteArray) : evalFn Tryd.prog (orc3 C emptyTab plainL) noLoops 100 3 Tryd.f3 [.gs 1, .str s] (gH ++ [.rs nn 1 (.ints .u8 xs)]) (fun v _ => some v) =
    bif decide (400 < Int.ofNat xs.length) then bif pB (textsL = textsL) then some (.bool true) else none else bif decide (1300 < Int.ofNat (lenS s)) then bif pB (textsL = textsL) then some (.bool true) else none else
      bif pB (textsL = textsL) && C xs s then bif pB (textsL = textsL) then some (.bool true) else none else none := by cases nn <;> kernel_rfl
theorem callTexts_true (nn : Bool) {xs : List Int} (hu : allU xs = true) (s : ByteArray) : evalFn Tryd.prog (orc3 txsC emptyTab plainL) noLoops 100 3 Tryd.f3 [.gs 1, .str s] (gH ++ [.rs nn 1 (.ints .u8 xs)]) (fun v _ => some v) = some (.bool true) := by
  rw [callTexts_eval, pB_iff.2 rfl]
  by_cases h : 400 < xs.length
  · rw [decide_eq_true (show 400 < Int.ofNat xs.length by show 400 < (xs.length : Int); omega)]; rfl
  · rw [decide_eq_false (show ¬ 400 < Int.ofNat xs.length from fun e => by have : 400 < (xs.length : Int) := e; omega)]
    by_cases h2 : 1300 < lenS s
    · rw [decide_eq_true (show 1300 < Int.ofNat (lenS s) by show 1300 < (lenS s : Int); omega)]; rfl
    · rw [decide_eq_false (show ¬ 1300 < Int.ofNat (lenS s) from fun e => by have : 1300 < (lenS s : Int) := e; omega), show txsC xs s = true by unfold txsC; rw [hu, decide_eq_true (by omega)]; rfl]; rfl
end Go.Proofs.YtpehklboickdpaaDoor
