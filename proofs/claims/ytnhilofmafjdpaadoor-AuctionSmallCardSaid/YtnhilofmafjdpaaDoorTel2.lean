/- Texts merged: Tel2, Tel3, Sm. -/
import Derived.Test.YtnhilofmafjdpaaDoorRS4
import Derived.Test.YtnhilofmafjdpaaDoorRW
import Derived.Test.YtnhilofmafjdpaaDoorLdr
/- Chapter 9: the law tells is true. -/
namespace Go.Proofs.YtnhilofmafjdpaaDoor
open Go Go.Eng
def marksN (MB : Int → Int → Int) : Nat → Nat → List Int
  | 0, _ => []
  | n + 1, i => MB 1 (i : Int) :: marksN MB n (i + 1)
theorem lentE_is {MB : Int → Int → Int} {Z : List Int → Option V} : ∀ (n i : Nat) (l : List Int), l.length + n ≤ 1000000 → i + n ≤ 1000 → lentE MB n (i : Int) l Z = Z (l ++ marksN MB n i)
  | 0, i, l, _, _ => by simp [lentE, marksN]
  | n + 1, i, l, h1, h2 => by
    unfold lentE
    rw [decide_eq_true (show (l ++ [MB 1 (i : Int)]).length * 2 ≤ 70368744177664 by rw [List.length_append, List.length_singleton]; omega), wr64 (by omega) (by omega), cond_true, show (i : Int) + 1 = ((i + 1 : Nat) : Int) by omega,
      lentE_is n (i + 1) _ (by rw [List.length_append, List.length_singleton]; omega) (by omega)]
    simp [marksN]
theorem marksN_is (MB : Int → Int → Int) : marksN MB 12 0 = marks MB := rfl
theorem eqSr : ∀ l : List ByteArray, eqS l l = true
  | [] => rfl
  | x :: r => by simp only [eqS, eqSr r, strEq_iff.2 rfl, Bool.and_self]
theorem cmpE_true {d : Int} {xs : List Int} {Z : Option V} (h1 : nK.KL (nK.N.GV d xs) = true) (h2 : nK.KB (nK.N.BV d xs) = true) : cmpE tN d xs xs Z = Z := by
  unfold cmpE
  rw [show tN.K = nK from rfl, h1, h2, show nK.EQ (nK.N.GV d xs) (nK.N.GV d xs) = true from eqI_iff.2 rfl, show nK.ES (nK.N.BV d xs) (nK.N.BV d xs) = true from eqSr _]
  simp only [decide_true, Bool.not_true, cond_false, cond_true, Bool.and_self]
  have e : ∀ b : Bool, eqB b b = true := fun b => by cases b <;> rfl
  rw [e, e]; rfl
theorem tells_true (nn : Bool) {d : Int} {xs : List Int} (hk : okA d xs = true) (hl : xs.length ≤ 400) : evalFn Tryd.prog (orcTl tN (tabMb mbV) plainL) noLoops 100 16 Tryd.f16 [.int .u8 d, .gs 1] (gH ++ [.rs nn 1 (.ints .u8 xs)]) (fun v _ => some v) = some (.bool true) := by
  have hof : Int.ofNat xs.length = (xs.length : Int) := rfl
  have hws : (xs ++ marks mbV).length = xs.length + 12 := by rw [List.length_append]; rfl
  have hown : List.take xs.length (List.drop 0 (xs ++ marks mbV)) = xs := by rw [List.drop_zero, List.take_append_of_le_length (Nat.le_refl _), List.take_length]
  have hGV : (nK.N.GV d xs).length ≤ 38 := legV_len _
  have h1 : nK.KL (nK.N.GV d xs) = true := decide_eq_true (by omega)
  have hBV : (nK.N.BV d xs).length ≤ 1000 := by
    show (tblV (fol d xs) d xs).length ≤ 1000
    unfold tblV
    by_cases he : (fol d xs).e = 0
    · obtain ⟨q0, q1, q2⟩ := fol_ok hk he
      rw [decide_eq_true he, cond_true]
      have ht := tbC_len (d := d) xs q0 (ovr (fol d xs).s)
      unfold lns
      rw [List.length_map, List.length_range]
      cases ho : ovr (fol d xs).s <;> rw [ho] at ht <;> simp only [cond_true, cond_false] at ht <;> omega
    · rw [decide_eq_false he]; simp
  have h2 : nK.KB (nK.N.BV d xs) = true := decide_eq_true (by omega)
  have hK : tN.K.N.K d xs = true := hk
  have hR : tN.KR d xs = true := by show kR d xs = true; unfold kR; rw [hk, decide_eq_true (by omega)]; rfl
  have hS : tN.K.N.KS xs = true := by show smallL xs = true; simp only [okA, Bool.and_eq_true] at hk; exact hk.2.1
  have hT : tN.K.N.KT xs = true := decide_eq_true (by omega)
  have hP : tN.KP (xs ++ marks mbV) xs = true := by show kpC _ _ = true; unfold kpC; rw [decide_eq_true rfl, decide_eq_true (by omega)]; rfl
  rw [tells_eval]
  unfold telE
  rw [hof, wr64 (n := (xs.length : Int) + 12) (by omega) (by omega), decide_eq_true (show 0 ≤ (0 : Int) ∧ 0 ≤ (xs.length : Int) + 12 ∧ ((xs.length : Int) + 12) * 2 ≤ 140737488355328 by omega), decide_eq_true (show xs.length * 2 ≤ 70368744177664 by omega)]
  simp only [cond_true]
  have hle := lentE_is (MB := mbV) (Z := fun ws => bif decide (0 ≤ (0 : Int) ∧ 0 ≤ (xs.length : Int) ∧ (xs.length : Int) ≤ Int.ofNat ws.length) then telZ tN d xs ws (List.take (((xs.length : Int)).toNat - 0) (List.drop 0 ws)) (((xs.length : Int)).toNat - 0) else none) 12 0 xs (by omega) (by omega)
  refine Eq.trans hle ?_
  rw [marksN_is]
  rw [decide_eq_true (show 0 ≤ (0 : Int) ∧ 0 ≤ (xs.length : Int) ∧ (xs.length : Int) ≤ Int.ofNat (xs ++ marks mbV).length by refine ⟨by omega, by omega, ?_⟩; rw [hws]; show (xs.length : Int) ≤ ((xs.length + 12 : Nat) : Int); omega), show (((xs.length : Int)).toNat - 0) = xs.length from rfl, hown]
  simp only [cond_true]
  unfold telZ
  rw [decide_eq_true (show 0 + xs.length ≤ (xs ++ marks mbV).length by omega), hK, hR, hS, hT, pB_iff.2 rfl, cmpE_true h1 h2, hP, show tN.K.KL (tN.K.N.GV d xs) = true from h1, show tN.K.EQ (tN.K.N.GV d xs) (tN.K.N.GV d xs) = true from eqI_iff.2 rfl,
    decide_eq_true (show (tN.K.N.GV d xs).length ≤ 70368744177664 from Nat.le_trans hGV (by omega)), decide_eq_true (rfl : xs.length = xs.length)]
  rfl
end Go.Proofs.YtnhilofmafjdpaaDoor

/- Chapter 9: the law AuctionTells. -/
namespace Go.Proofs.YtnhilofmafjdpaaDoor
open Go Go.Eng
theorem tells_fn (nn : Bool) {d : Int} {xs : List Int} (hk : okA d xs = true) (hl : xs.length ≤ 400) : FnOK Tryd.prog 16 [.int .u8 d, .gs 1] (gH ++ [.rs nn 1 (.ints .u8 xs)]) (.bool true) (gH ++ [.rs nn 1 (.ints .u8 xs)]) := by
  obtain ⟨v1, e1, hk, hok⟩ := evalFn_ok (orcTl_ok tabMb_ok plainL_ok) mixed Tryd.func16 noLoops_ok (tells_true nn hk hl)
  cases hk
  refine hok.plain rfl ?_
  intro b blk hb
  match b, hb with
  | 0, hb => cases hb; rfl
  | 1, hb => cases hb; rfl
  | _ + 2, hb => simp [gH] at hb
noncomputable def gTel (C : Int → List Int → Bool) : List V → List Blk → Option (Bool × V × List Blk)
  | [.int .u8 d, .gs 1], [.glob 0 (.strs l), .rs _ 1 (.ints .u8 xs)] => some (pB (l = textsL) && C d xs, .bool true, [])
  | _, _ => none
def telC (d : Int) (xs : List Int) : Bool := okA d xs && decide (xs.length ≤ 400)
noncomputable def hTab5 (C : Int → List Int → Bool) (N : NA) : HTab := addH 16 (gTel C) (hTabA N)
def dom5 : FuncId → Bool := fun f => Nat.beq f 16 || domA f
def gl5 : FuncId → List Nat := fun f => bif Nat.beq f 16 || (Nat.beq f 20 || Nat.beq f 13) then [0] else []
theorem hTab5_ok : HTabOk Tryd.prog (hTab5 telC nA) := by
  refine addH_ok ?_ hTabA_ok
  intro args h c v nb hq hc
  unfold gTel at hq
  split at hq
  · cases hq
    simp only [Bool.and_eq_true, pB_iff, telC, decide_eq_true_eq] at hc
    obtain ⟨rfl, h1, h2⟩ := hc
    exact ⟨.of Tryd.func16 (by kernel_rfl), by rw [List.append_nil]; exact tells_fn _ h1 h2⟩
  · cases hq
noncomputable abbrev orc5 (C : Int → List Int → Bool) (N : NA) (T : PTab) (LL : FuncId → Loops) : Oracle := inl Tryd.prog ftab T LL 100 never dom5 (hOrcN gl5 nrB (hTab5 C N)) 20
theorem orc5_ok {T : PTab} (hT : PTabOk Tryd.prog T) {LL : FuncId → Loops} (hL : ∀ f, loopsOk Tryd.prog (LL f)) : OracleOk Tryd.prog (orc5 telC nA T LL) := inl_ok (hOrcN_ok hTab5_ok) ftab_ok hT hL mixed 20
theorem auctionTells_eval (C : Int → List Int → Bool) (N : NA) (nn : Bool) (d : Int) (xs : List Int) : evalFn Tryd.prog (orc5 C N emptyTab plainL) noLoops 100 5 Tryd.f5 [.int .u8 d, .gs 1] (gH ++ [.rs nn 1 (.ints .u8 xs)]) (fun v _ => some v) =
    bif decide (400 < Int.ofNat xs.length) then bif pB (textsL = textsL) then some (.bool true) else none else bif pB (textsL = textsL) && C d xs then bif pB (textsL = textsL) then some (.bool true) else none else none := by cases nn <;> kernel_rfl
theorem auctionTells_true (nn : Bool) {d : Int} {xs : List Int} (hd : 0 ≤ d) (hu : allU xs = true) : evalFn Tryd.prog (orc5 telC nA emptyTab plainL) noLoops 100 5 Tryd.f5 [.int .u8 d, .gs 1] (gH ++ [.rs nn 1 (.ints .u8 xs)]) (fun v _ => some v) = some (.bool true) := by
  rw [auctionTells_eval, pB_iff.2 rfl]
  by_cases h : 400 < xs.length
  · rw [decide_eq_true (show 400 < Int.ofNat xs.length by show 400 < (xs.length : Int); omega)]; rfl
  · have hC : telC d xs = true := by
      simp only [telC, okA, smallL, Bool.and_eq_true, decide_eq_true_eq]
      exact ⟨⟨by omega, by omega, hu⟩, by omega⟩
    rw [decide_eq_false (show ¬ 400 < Int.ofNat xs.length from fun e => by have : 400 < (xs.length : Int) := e; omega), hC]; rfl
end Go.Proofs.YtnhilofmafjdpaaDoor

/- Chapter 9: the law AuctionSmall: tables: contracts, templates. -/
namespace Go.Proofs.YtnhilofmafjdpaaDoor
open Go Go.Eng
/-! ### call.ReadAll of six strings -/
def keepR (v : V) (h : List Blk) : Option (List Int) := match v with
  | .tuple [.gs b, .int .i64 e] => match getB h b, decide (e = 0) with
    | .grow _ ty sz (.ints .u8 l), true => match Nat.beq ty 5 && Nat.beq sz 1 with
      | true => some l
      | false => none
    | _, _ => none
  | .tuple [.flat (.slice none 0 0), .int .i64 e] => match decide (e = 0) with
    | true => some []
    | false => none
  | _ => none
theorem ra_fn {s : ByteArray} {row : List Int} (h : evalFn Tryd.prog (orcC nA tabW plainL) noLoops 100 59 Tryd.f59 [.str s] gH keepR = some row) : FnOK Tryd.prog 59 [.str s] gH (.tuple [.gs 1, .int .i64 0]) (gH ++ [.grow false 5 1 (.ints .u8 row)]) := by
  obtain ⟨v1, h1, hk, hok⟩ := evalFn_ok (orcC_ok tabW_ok plainL_ok) mixed Tryd.func59 noLoops_ok h
  unfold keepR at hk
  split at hk
  · split at hk
    · rename_i b e nn ty sz l hb he
      split at hk
      · rename_i hts
        simp only [Bool.and_eq_true] at hts
        have t1 := Nat.eq_of_beq_eq_true hts.1
        have t2 := Nat.eq_of_beq_eq_true hts.2
        have t3 := of_decide_eq_true he
        subst t1; subst t2; subst t3
        cases hk
        exact FnOK.lastAtW (n2 := false) (fun h => by cases h) hok (getB_some hb (by simp)) rfl gH_ro
      · cases hk
    · cases hk
  · split at hk
    · rename_i e he
      have t3 := of_decide_eq_true he
      subst t3
      cases hk
      exact hok.nilR rfl gH_ro
    · cases hk
  · cases hk
def raSix : List (ByteArray × List Int) := [(⟨#[80, 32, 49, 72, 32, 88]⟩, [0, 5, 1]), (⟨#[]⟩, []), (⟨#[80, 32, 80, 32, 80, 32, 80]⟩, [0, 0, 0, 0]), (⟨#[49, 67, 32, 49, 68, 32, 49, 72, 32, 49, 83, 32, 49, 78, 84]⟩, [3, 4, 5, 6, 7]), (⟨#[55, 78, 84, 32, 80, 32, 80, 32, 80]⟩, [37, 0, 0, 0]), (⟨#[49, 67, 32, 88, 32, 88, 88, 32, 80, 32, 80]⟩, [3, 1, 2, 0, 0])]
def eqIL : List Int → List Int → Bool
  | [], [] => true
  | a :: r, b :: q => decide (a = b) && eqIL r q
  | _, _ => false
theorem eqIL_ok : ∀ {a b : List Int}, eqIL a b = true → a = b
  | [], [], _ => rfl
  | a :: r, b :: q, h => by
    simp only [eqIL, Bool.and_eq_true, decide_eq_true_eq] at h
    rw [h.1, eqIL_ok h.2]
  | [], _ :: _, h => by cases h
  | _ :: _, [], h => by cases h
theorem ra_all : (raSix.all fun p => match evalFn Tryd.prog (orcC nA tabW plainL) noLoops 100 59 Tryd.f59 [.str p.1] gH keepR with | some r => eqIL r p.2 | none => false) = true := by kernel_rfl
def raF : List (ByteArray × List Int) → ByteArray → Option (List Int)
  | [], _ => none
  | p :: r, s => bif strEq p.1 s then some p.2 else raF r s
theorem raF_ok : ∀ {l : List (ByteArray × List Int)} {s : ByteArray} {v : List Int}, raF l s = some v → (s, v) ∈ l
  | [], s, v, h => by cases h
  | p :: r, s, v, h => by
    unfold raF at h
    cases hb : strEq p.1 s with
    | true =>
      rw [hb] at h
      cases h
      rw [← strEq_iff.1 hb]; exact List.mem_cons_self
    | false => rw [hb] at h; exact List.mem_cons_of_mem _ (raF_ok h)
theorem ra_six {s : ByteArray} {v : List Int} (h : raF raSix s = some v) : FnOK Tryd.prog 59 [.str s] gH (.tuple [.gs 1, .int .i64 0]) (gH ++ [.grow false 5 1 (.ints .u8 v)]) := by
  have h2 := List.all_eq_true.1 ra_all _ (raF_ok h)
  dsimp only at h2
  split at h2
  · rename_i r hr
    rw [← eqIL_ok h2]
    exact ra_fn hr
  · cases h2
structure SX where
  CT : List ByteArray → Bool
  CL : Int → List Int → Bool
  RK : ByteArray → Bool
  RV : ByteArray → List Int
  T : TN
def sX : SX := ⟨rdsC, telC, fun s => (raF raSix s).isSome, fun s => (raF raSix s).getD [], tN⟩
noncomputable def gRa (X : SX) : List V → List Blk → Option (Bool × V × List Blk)
  | [.str s], [.glob 0 (.strs l)] => some (pB (l = textsL) && X.RK s, .tuple [.gs 1, .int .i64 0], [.grow false 5 1 (.ints .u8 (X.RV s))])
  | _, _ => none
noncomputable def hTabSm (X : SX) : HTab := addH 28 (gRds X.CT) (addH 44 (gT44 X.T) (addH 59 (gRa X) emptyH))
theorem hTabSm_ok : HTabOk Tryd.prog (hTabSm sX) := by
  refine addH_ok ?_ (addH_ok ?_ (addH_ok ?_ emptyH_ok))
  · intro args h c v nb hq hc
    unfold gRds at hq
    split at hq
    · cases hq
      simp only [Bool.and_eq_true, pB_iff] at hc
      obtain ⟨rfl, h1⟩ := hc
      have h1 : rdsC _ = true := h1
      simp only [rdsC, decide_eq_true_eq] at h1
      exact ⟨.of Tryd.func28 (by kernel_rfl), by rw [List.append_nil]; exact reads_fn _ h1⟩
    · cases hq
  · intro args h c v nb hq hc
    unfold gT44 at hq
    split at hq
    · cases hq; exact ⟨.of Tryd.func44 (by kernel_rfl), rtable_fn _ hc⟩
    · cases hq
  · intro args h c v nb hq hc
    unfold gRa at hq
    split at hq
    · rename_i s l
      cases hq
      simp only [Bool.and_eq_true, pB_iff] at hc
      obtain ⟨rfl, h1⟩ := hc
      have h1 : (raF raSix s).isSome = true := h1
      obtain ⟨r, hr⟩ := Option.isSome_iff_exists.1 h1
      refine ⟨.of Tryd.func59 (by kernel_rfl), ?_⟩
      rw [show sX.RV s = r by show (raF raSix s).getD [] = r; rw [hr]; rfl]
      exact ra_six hr
    · cases hq
def domSm : FuncId → Bool := fun f => Nat.beq f 28 || (Nat.beq f 44 || Nat.beq f 59)
def glSm : FuncId → List Nat := fun f => bif Nat.beq f 28 || Nat.beq f 59 then [0] else []
noncomputable abbrev orcSm (X : SX) (LL : FuncId → Loops) : Oracle := inl Tryd.prog ftab tabW LL 100 never domSm (hOrcN glSm nr9 (hTabSm X)) 20
theorem orcSm_ok {LL : FuncId → Loops} (hL : ∀ f, loopsOk Tryd.prog (LL f)) : OracleOk Tryd.prog (orcSm sX LL) := inl_ok (hOrcN_ok hTabSm_ok) ftab_ok tabW_ok hL mixed 20
noncomputable def m5Lp : Code := loopOf 18 Tryd.f31
noncomputable def m4Lp : Code := loopOf 14 Tryd.f31
noncomputable def m3Lp : Code := loopOf 11 Tryd.f31
def m5T : Tm := ⟨mkS [(1, .int .i64), (2, .str), (3, .int .u8), (4, .gs 2), (6, .int .i64), (7, .str), (8, .int .i64), (9, .gs 3), (12, .gs 1), (13, .int .i64), (14, .int .i64), (57, .gs 2), (58, .int .i64), (59, .int .i64), (66, .int .i64), (67, .int .i64), (73, .gs 4), (74, .int .i64), (75, .int .i64)] 0 133,
  [.glob 0 strsT, .grow true 9 1 (.vs [.str, .str, .str, .str, .str, .str]), .grow false 9 1 strsT, .grow true 9 1 strsT, .grow true 9 1 (.vs [.str, .str, .str, .str, .str, .str, .str, .str])], []⟩
def m4T : Tm := ⟨mkS [(1, .int .i64), (2, .str), (3, .int .u8), (4, .gs 2), (6, .int .i64), (7, .str), (12, .gs 1), (13, .int .i64), (14, .int .i64), (57, .gs 2), (58, .int .i64), (59, .int .i64), (66, .int .i64), (67, .int .i64)] 0 133,
  [.glob 0 strsT, .grow true 9 1 (.vs [.str, .str, .str, .str, .str, .str]), .grow false 9 1 strsT], []⟩
def m3T : Tm := ⟨mkS [(1, .int .i64), (2, .str), (3, .int .u8), (4, .gs 2), (12, .gs 1), (13, .int .i64), (14, .int .i64), (57, .gs 2), (58, .int .i64), (59, .int .i64)] 0 133,
  [.glob 0 strsT, .grow true 9 1 (.vs [.str, .str, .str, .str, .str, .str]), .grow false 9 1 strsT], []⟩
def m3X : Tm := ⟨mkS [(1, .int .i64), (2, .str), (3, .int .u8), (12, .gs 1), (13, .int .i64), (14, .int .i64)] 0 133,
  [.glob 0 strsT, .grow true 9 1 (.vs [.str, .str, .str, .str, .str, .str])], []⟩
end Go.Proofs.YtnhilofmafjdpaaDoor
