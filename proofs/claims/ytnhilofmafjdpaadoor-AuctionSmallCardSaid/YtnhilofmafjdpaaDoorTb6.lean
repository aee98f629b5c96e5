/- Texts merged: Tb6, RA. -/
import Derived.Test.YtnhilofmafjdpaaDoorTb
import Derived.Test.YtnhilofmafjdpaaDoorLst
/- Chapter 9: Table for every list: its contract. -/
namespace Go.Proofs.YtnhilofmafjdpaaDoor
open Go Go.Eng
noncomputable def tbX (N : TbN) (cs : List ByteArray) : Option (V × Option (Bool × TypeId × Nat × Row)) := cond (codesB [(t3Lp, t3Lp)]) (bif decide ((0 : Int) = 0 ∧ ([] : List ByteArray).length = 0) && N.C3 cs then some (.tuple [.gs 2, .int .i64 0], some (false, 9, 1, .strs (N.R3 cs))) else none) none
theorem table_eval (F : Int → List Int → FR) (CH : St → Int → Int) (OV : St → Bool) (LN : LNT) (N : TbN) (nn : Bool) (d : Int) (xs : List Int) : evT F CH OV LN N nn d xs =
    bif okA d xs then bif !decide ((F d xs).e = 0) then some (.tuple [.flat (.slice none 0 0), .int .i64 2], none) else
      bif decide ((0 : Int) ≤ 0 ∧ 0 ≤ wr .i64 (Int.ofNat xs.length + 8) ∧ wr .i64 (Int.ofNat xs.length + 8) * 17 ≤ 140737488355328) then
      cond (codesB [(t1Lp, t1Lp)]) (bif decide ((0 : Int) = 0 ∧ 0 ≤ d ∧ d < 256 ∧ ([] : List ByteArray).length = 0) then cond (codesB [(t2Lp, t2Lp)]) (bif N.C2 0 (Int.ofNat xs.length) xs (N.R1 d) && pB (textsL = textsL) then
        bif !OV (F d xs).s then bif decide ((N.R2 (N.R1 d) xs ++ [askS]).length * 17 ≤ 70368744177664) then tbX N (N.R2 (N.R1 d) xs ++ [askS]) else none else tbX N (N.R2 (N.R1 d) xs) else none) none else none) none else none else none := by cases nn <;> kernel_rfl
/-- The cells of a table. -/
def tbC (d : Int) (xs : List Int) (o : Bool) : List ByteArray := withT (dashes d) xs ++ (bif o then [] else [askS])
def tblE (F : FR) : Int := bif decide (F.e = 0) then 0 else 2
def tblV (F : FR) (d : Int) (xs : List Int) : List ByteArray := bif decide (F.e = 0) then lns (tbC d xs (ovr F.s)) else []
def lenT (xs : List Int) : Bool := decide (xs.length ≤ 1000000)
theorem flw_allC : ∀ (xs : List Int) (i : Nat) (s : St), allU xs = true → (flw xs i s).e = 0 → allC xs = true
  | [], _, _, _, _ => rfl
  | c :: r, i, s, hu, h => by
    simp only [allU, Bool.and_eq_true, decide_eq_true_eq] at hu
    unfold flw at h
    by_cases hb : chk s c = 0
    · rw [decide_eq_true hb] at h
      simp only [allC, Bool.and_eq_true]
      exact ⟨chk_ok hb hu.1.1, flw_allC r (i + 1) _ hu.2 h⟩
    · rw [decide_eq_false hb] at h; exact absurd h hb
theorem fol_ok {d : Int} {xs : List Int} (h : okA d xs = true) (he : (fol d xs).e = 0) : 0 ≤ d ∧ d ≤ 3 ∧ allC xs = true := by
  simp only [okA, Bool.and_eq_true, decide_eq_true_eq] at h
  unfold fol at he
  cases hd : decide (3 < d) with
  | true => rw [hd] at he; cases he
  | false =>
    rw [hd] at he
    simp only [decide_eq_false_iff_not] at hd
    exact ⟨h.1, by omega, flw_allC xs 0 _ h.2.2 he⟩
theorem txt_small (c : Int) : (txt c).size ≤ 3 := by
  have key : ∀ t ∈ textsL, t.size ≤ 3 := by decide
  unfold txt
  rw [List.getD_eq_getElem?_getD]
  cases h : textsL[c.toNat]? with
  | none => exact Nat.zero_le _
  | some t => exact key t (List.mem_of_getElem? h)
theorem tbC_small {d : Int} {xs : List Int} (hd : 0 ≤ d ∧ d ≤ 3) (hl : lenT xs = true) (o : Bool) : smallC (tbC d xs o) = true := by
  simp only [lenT, decide_eq_true_eq] at hl
  simp only [smallC, Bool.and_eq_true, List.all_eq_true, decide_eq_true_eq]
  refine ⟨fun s hs => ?_, ?_⟩
  · simp only [tbC, withT, dashes, List.mem_append, List.mem_replicate, List.mem_map] at hs
    rcases hs with (⟨_, rfl⟩ | ⟨c, _, rfl⟩) | hs
    · decide
    · have := txt_small c; omega
    · cases o with
      | true => cases hs
      | false => simp only [cond_false, List.mem_singleton] at hs; subst hs; decide
  · simp only [tbC, withT, dashes, List.length_append, List.length_replicate, List.length_map]
    cases o <;> simp <;> omega
theorem lpCd (c : Code) : codesB [(c, c)] = true := by rw [codesB_iff]; intro x hx; simp at hx; rw [hx]
theorem gT_ro {nn : Bool} {xs : List Int} : ∀ (b : Nat) blk, ([.glob 0 (.strs textsL), .rs nn 1 (.ints .u8 xs)] : List Blk)[b]? = some blk → blk.mine = false := by
  intro b blk hb
  match b, hb with
  | 0, hb => cases hb; rfl
  | 1, hb => cases hb; rfl
  | _ + 2, hb => simp at hb
theorem table_key (nn : Bool) {d : Int} {xs : List Int} (h : okA d xs = true) (hl : lenT xs = true) : evT fol chk ovr lineS tbN nn d xs =
    bif decide ((fol d xs).e = 0) then some (.tuple [.gs 2, .int .i64 0], some (false, 9, 1, .strs (lns (tbC d xs (ovr (fol d xs).s))))) else some (.tuple [.flat (.slice none 0 0), .int .i64 2], none) := by
  rw [table_eval, h, cond_true]
  cases he : decide ((fol d xs).e = 0) with
  | false => rfl
  | true =>
    obtain ⟨h0, h1, h2⟩ := fol_ok h (of_decide_eq_true he)
    have hl' := hl
    simp only [lenT, decide_eq_true_eq] at hl
    have hof : Int.ofNat xs.length = (xs.length : Int) := rfl
    have hw : wr .i64 (Int.ofNat xs.length + 8) = (xs.length : Int) + 8 := by rw [hof]; exact wr64 (by omega) (by omega)
    have hc2 : tbN.C2 0 (Int.ofNat xs.length) xs (tbN.R1 d) = true := by
      show c2 0 (Int.ofNat xs.length) xs (dashes d) = true
      simp only [c2, Bool.and_eq_true, decide_eq_true_eq]
      exact ⟨⟨trivial, trivial, hl, by unfold dashes; rw [List.length_replicate]; omega⟩, h2⟩
    have hx : ∀ cs, smallC cs = true → tbX tbN cs = some (.tuple [.gs 2, .int .i64 0], some (false, 9, 1, .strs (lns cs))) := fun cs hcs => by
      unfold tbX
      rw [lpCd, show tbN.C3 cs = smallC cs from rfl, hcs]; rfl
    rw [Bool.not_true, cond_false, hw, decide_eq_true (show (0 : Int) ≤ 0 ∧ 0 ≤ (xs.length : Int) + 8 ∧ ((xs.length : Int) + 8) * 17 ≤ 140737488355328 by omega), cond_true, lpCd, cond_true,
      decide_eq_true (show (0 : Int) = 0 ∧ 0 ≤ d ∧ d < 256 ∧ ([] : List ByteArray).length = 0 from ⟨rfl, h0, by omega, rfl⟩), cond_true, lpCd, cond_true, hc2, pB_iff.2 rfl, Bool.and_true, cond_true]
    have hs := tbC_small ⟨h0, h1⟩ hl' (ovr (fol d xs).s)
    cases ho : ovr (fol d xs).s with
    | true =>
      rw [ho] at hs
      rw [Bool.not_true, cond_false]
      have e : tbN.R2 (tbN.R1 d) xs = tbC d xs true := (List.append_nil _).symm
      rw [e, hx _ hs]; rfl
    | false =>
      rw [ho] at hs
      rw [Bool.not_false, cond_true]
      have e : tbN.R2 (tbN.R1 d) xs ++ [askS] = tbC d xs false := rfl
      have hlen : (tbC d xs false).length * 17 ≤ 70368744177664 := by
        simp only [smallC, Bool.and_eq_true, decide_eq_true_eq] at hs; omega
      rw [e, decide_eq_true hlen, cond_true, hx _ hs]; rfl
theorem table_fn (nn : Bool) {d : Int} {xs : List Int} (h : okA d xs = true) (hl : lenT xs = true) : FnOK Tryd.prog 20 [.int .u8 d, .gs 1] [.glob 0 (.strs textsL), .rs nn 1 (.ints .u8 xs)] (.tuple [.gs 2, .int .i64 (tblE (fol d xs))]) ([.glob 0 (.strs textsL), .rs nn 1 (.ints .u8 xs)] ++ [.grow false 9 1 (.strs (tblV (fol d xs) d xs))]) := by
  have key := table_key nn h hl
  unfold tblE tblV
  cases he : decide ((fol d xs).e = 0) with
  | false =>
    rw [he] at key
    obtain ⟨v1, h1, hk, hok⟩ := evalFn_ok (orc1_ok tabT_ok plainL_ok) mixed Tryd.func20 (tbL_ok nn) key
    unfold keepX at hk
    split at hk
    · split at hk
      · cases hk
      · cases hk
    · cases hk
      exact hok.nilR rfl gT_ro
  | true =>
    rw [he] at key
    obtain ⟨v1, h1, hk, hok⟩ := evalFn_ok (orc1_ok tabT_ok plainL_ok) mixed Tryd.func20 (tbL_ok nn) key
    unfold keepX at hk
    split at hk
    · split at hk
      · rename_i b w nn ty sz row hb
        simp only [Option.some.injEq, Prod.mk.injEq, V.tuple.injEq, List.cons.injEq, V.gs.injEq, and_true] at hk
        obtain ⟨⟨rfl, rfl⟩, rfl, rfl, rfl, rfl⟩ := hk
        exact hok.lastAtT (getB_some hb (by simp)) rfl gT_ro
      · cases hk
    · cases hk
end Go.Proofs.YtnhilofmafjdpaaDoor

/- Chapter 9: the reference: Last, passes, act: one round. -/
namespace Go.Proofs.YtnhilofmafjdpaaDoor
open Go Go.Eng
noncomputable def raLp : Code := loopOf 2 Tryd.f43
noncomputable def paLp : Code := loopOf 4 Tryd.f77
noncomputable def acLp : Code := loopOf 2 Tryd.f78
def raT (nn : Bool) : Tm := ⟨mkS [(0, .gs 0), (2, .int .i64), (3, .bool), (4, .int .i64)] 0 25, [.rs nn 1 u8s], []⟩
def raX (nn : Bool) : Tm := ⟨mkS [(2, .int .i64), (3, .bool)] 0 25, [.rs nn 1 u8s], []⟩
def paT (nn : Bool) : Tm := ⟨mkS [(0, .gs 0), (4, .bool), (5, .int .i64)] 0 25, [.rs nn 1 u8s], []⟩
def paX (nn : Bool) : Tm := ⟨mkS [(4, .bool)] 0 25, [.rs nn 1 u8s], []⟩
def acT (nn : Bool) : Tm := ⟨mkS [(0, .gs 0), (2, .int .i64), (3, .int .i64)] 0 17, [.rs nn 1 u8s], []⟩
def acX (nn : Bool) : Tm := ⟨mkS [(2, .int .i64)] 0 17, [.rs nn 1 u8s], []⟩
theorem ra_round (nn : Bool) (rd : Option Nat) (z i : Int) (b : Bool) (xs : List Int) : roundT Tryd.prog (orcE emptyTab plainL) noLoops 100 1 rd 43 raLp (raT nn) (raX nn) [.i z, .b b, .i i, .l xs] =
    bif decide (0 ≤ i) then atU xs i (fun c => bif decide (3 ≤ c) then atU xs i (fun c => bif decide (c < 38) then some (.ret, [.i i, .b true, .l xs], []) else some (.normal, [.i z, .b b, .i (wr .i64 (i - 1)), .l xs], [])) else some (.normal, [.i z, .b b, .i (wr .i64 (i - 1)), .l xs], [])) else some (.exit 0, [.i z, .b b, .l xs], []) := by cases nn <;> kernel_rfl
theorem pa_round (nn : Bool) (rd : Option Nat) (b : Bool) (i : Int) (xs : List Int) : roundT Tryd.prog (orcE emptyTab plainL) noLoops 100 1 rd 77 paLp (paT nn) (paX nn) [.b b, .i i, .l xs] =
    bif decide (i < Int.ofNat xs.length) then atU xs i (fun c => bif !decide (c = 0) then some (.ret, [.b false, .l xs], []) else some (.normal, [.b b, .i (wr .i64 (i + 1)), .l xs], [])) else some (.exit 0, [.b b, .l xs], []) := by cases nn <;> kernel_rfl
theorem ac_round (nn : Bool) (rd : Option Nat) (z i : Int) (xs : List Int) : roundT Tryd.prog (orcE emptyTab plainL) noLoops 100 1 rd 78 acLp (acT nn) (acX nn) [.i z, .i i, .l xs] =
    bif decide (0 ≤ i) then atU xs i (fun c => bif !decide (c = 0) then some (.ret, [.i i, .l xs], []) else some (.normal, [.i z, .i (wr .i64 (i - 1)), .l xs], [])) else some (.exit 0, [.i z, .l xs], []) := by cases nn <;> kernel_rfl
end Go.Proofs.YtnhilofmafjdpaaDoor
