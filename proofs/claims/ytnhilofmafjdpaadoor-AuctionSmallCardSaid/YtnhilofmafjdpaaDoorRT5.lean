/- Texts merged: RT5, Bk4. -/
import Derived.Test.YtnhilofmafjdpaaDoorRT
import Derived.Test.YtnhilofmafjdpaaDoorBk3
import Derived.Test.YtnhilofmafjdpaaDoorHist
/- Chapter 9: the reference: Table's contract. -/
namespace Go.Proofs.YtnhilofmafjdpaaDoor
open Go Go.Eng
def ovN (d n : Int) (xs : List Int) : Bool := decide (n = d + (xs.length : Int))
def tlV (d n : Int) (xs : List Int) : List ByteArray := lns (tbC d xs (ovN d n xs))
def tlC (d n : Int) (xs : List Int) : Bool := decide (0 ≤ d ∧ d ≤ 3 ∧ xs.length ≤ 1000000 ∧ n = ((tbC d xs (ovN d n xs)).length : Int)) && allC xs
noncomputable def tlTree (C : Int → Int → List Int → Bool) (TV : Int → Int → List Int → List ByteArray) (nn : Bool) : List PV → Fin
  | [.i d, .i n, .s ln, .i i, .l xs, .ss out] => .br (decide (i = 0 ∧ lenS ln = 0 ∧ out.length = 0) && C d n xs) (.leaf (.exit 0) ((tlX nn).at [.l xs, .ss (TV d n xs)])) .no
  | _ => .no
noncomputable def tlL (C : Int → Int → List Int → Bool) (TV : Int → Int → List Int → List ByteArray) (nn : Bool) : Loops := sums (fun n => match n with | 9 => some (lsumF 1 (tlT nn) tlLp (tlTree C TV nn)) | _ => none)
theorem tlL_ok (nn : Bool) : loopsOk Tryd.prog (tlL tlC tlV nn) := by
  intro n g hg
  simp only [tlL, sums] at hg
  split at hg
  · cases hg
    refine lsumF_ok (by cases nn <;> kernel_rfl) (fun rd ps e1 st1 hq => ?_)
    unfold tlTree at hq
    split at hq
    · rename_i d n ln i xs out
      simp only [Fin.pick] at hq
      cases hc : (decide (i = 0 ∧ lenS ln = 0 ∧ out.length = 0) && tlC d n xs) with
      | false => rw [hc] at hq; cases hq
      | true =>
        rw [hc, cond_true] at hq
        simp only [tlC, Bool.and_eq_true, decide_eq_true_eq] at hc
        obtain ⟨⟨rfl, h1, h2⟩, ⟨h3, h4, h5, h6⟩, h7⟩ := hc
        obtain rfl := List.eq_nil_of_length_eq_zero h2
        have hln : ln = lnI (tbC d xs (ovN d n xs)) 0 := by
          obtain ⟨⟨l⟩⟩ := ln
          have : l = [] := List.eq_nil_of_length_eq_zero h1
          subst this; rfl
        have h := tl_loop nn rd d xs (ovN d n xs) ⟨h3, h4⟩ h7 h5 0 (Nat.zero_le _)
        rw [← hln, ← h6] at h
        cases hq
        exact h
    · cases hq
  · cases hg
noncomputable def rtE (C : Int → Int → List Int → Bool) (TV : Int → Int → List Int → List ByteArray) (d n : Int) (xs : List Int) : Option (V × Option (Bool × TypeId × Nat × Row)) :=
  cond (codesB [(tlLp, tlLp)]) (bif decide ((0 : Int) = 0 ∧ lenS ⟨#[]⟩ = 0 ∧ ([] : List ByteArray).length = 0) && C d n xs then some (.tuple [.gs 1, .int .i64 0], some (false, 9, 1, .strs (TV d n xs))) else none) none
theorem rtable_eval (R : RH) (PD : ByteArray → ByteArray) (TX : Int → ByteArray) (TE : Int → Int) (C : Int → Int → List Int → Bool) (TV : Int → Int → List Int → List ByteArray) (nn : Bool) (d : Int) (xs : List Int) : evalFn Tryd.prog (orcH R (tabTl PD R.SE TX TE) plainL) (tlL C TV nn) 100 44 Tryd.f44 [.int .u8 d, .gs 0] [.rs nn 1 (.ints .u8 xs)] keepX =
    bif R.KR d xs then bif !decide (R.CE d xs = 0) then some (.tuple [.flat (.slice none 0 0), .int .i64 2], none) else bif R.G.F.KS xs then bif !R.G.EN xs then rtE C TV d (wr .i64 (wr .i64 (wr .i64 d + Int.ofNat xs.length) + 1)) xs else rtE C TV d (wr .i64 (wr .i64 d + Int.ofNat xs.length)) xs else none else none := by cases nn <;> kernel_rfl
theorem rtE_true {d : Int} {xs : List Int} {o : Bool} (hd : 0 ≤ d ∧ d ≤ 3) (hc : allC xs = true) (hl : xs.length ≤ 1000000) : rtE tlC tlV d ((tbC d xs o).length : Int) xs = some (.tuple [.gs 1, .int .i64 0], some (false, 9, 1, .strs (lns (tbC d xs o)))) := by
  have htl := tbC_len (d := d) xs hd.1 o
  have ho : ovN d ((tbC d xs o).length : Int) xs = o := by
    unfold ovN
    cases o with
    | true => simp only [cond_true] at htl; exact decide_eq_true (by omega)
    | false => simp only [cond_false] at htl; exact decide_eq_false (by omega)
  have hC : tlC d ((tbC d xs o).length : Int) xs = true := by
    unfold tlC
    rw [ho, hc, decide_eq_true (show 0 ≤ d ∧ d ≤ 3 ∧ xs.length ≤ 1000000 ∧ ((tbC d xs o).length : Int) = ((tbC d xs o).length : Int) from ⟨hd.1, hd.2, hl, rfl⟩)]; rfl
  unfold rtE tlV
  rw [ho, hC, lpCd]; rfl
theorem rtable_fn (nn : Bool) {d : Int} {xs : List Int} (h : kR d xs = true) : FnOK Tryd.prog 44 [.int .u8 d, .gs 0] [.rs nn 1 (.ints .u8 xs)] (.tuple [.gs 1, .int .i64 (tblE (fol d xs))]) ([.rs nn 1 (.ints .u8 xs)] ++ [.grow false 9 1 (.strs (tblV (fol d xs) d xs))]) := by
  obtain ⟨g1, g2, g3⟩ := kR_ok h
  have key := rtable_eval rH padS rtxt rtxE tlC tlV nn d xs
  rw [show rH.KR d xs = true from h, show rH.CE d xs = (fol d xs).e from rfl, show rH.G.F.KS xs = true from g3, show rH.G.EN xs = endV xs from rfl] at key
  unfold tblE tblV
  by_cases he : (fol d xs).e = 0
  · obtain ⟨q0, q1, q2⟩ := fol_ok g1 he
    have hof : Int.ofNat xs.length = (xs.length : Int) := rfl
    have htl := tbC_len (d := d) xs q0 (ovr (fol d xs).s)
    rw [decide_eq_true he, end_is g1 he, hof, wr64 (n := d) (by omega) (by omega), wr64 (n := d + (xs.length : Int)) (by omega) (by omega), wr64 (n := d + (xs.length : Int) + 1) (by omega) (by omega)] at key
    rw [decide_eq_true he]
    have key2 : evalFn Tryd.prog (orcH rH (tabTl padS rH.SE rtxt rtxE) plainL) (tlL tlC tlV nn) 100 44 Tryd.f44 [.int .u8 d, .gs 0] [.rs nn 1 (.ints .u8 xs)] keepX = some (.tuple [.gs 1, .int .i64 0], some (false, 9, 1, .strs (lns (tbC d xs (ovr (fol d xs).s))))) := by
      rw [key]
      have ht := rtE_true (o := ovr (fol d xs).s) ⟨q0, q1⟩ q2 g2
      cases ho : ovr (fol d xs).s with
      | true =>
        rw [ho] at htl ht
        simp only [cond_true] at htl
        rw [show d + (xs.length : Int) = ((tbC d xs true).length : Int) by omega]
        exact ht
      | false =>
        rw [ho] at htl ht
        simp only [cond_false] at htl
        rw [show d + (xs.length : Int) + 1 = ((tbC d xs false).length : Int) by omega]
        exact ht
    obtain ⟨v1, h1, hk, hok⟩ := evalFn_ok (orcH_ok tabTl_ok plainL_ok) mixed Tryd.func44 (tlL_ok nn) key2
    unfold keepX at hk
    split at hk
    · split at hk
      · rename_i b w nn ty sz row hb
        simp only [Option.some.injEq, Prod.mk.injEq, V.tuple.injEq, List.cons.injEq, V.gs.injEq, and_true] at hk
        obtain ⟨⟨rfl, rfl⟩, rfl, rfl, rfl, rfl⟩ := hk
        exact hok.lastAtT (getB_some hb (by simp)) rfl rs_ro
      · cases hk
    · cases hk
  · rw [decide_eq_false he] at key
    rw [decide_eq_false he]
    obtain ⟨v1, h1, hk, hok⟩ := evalFn_ok (orcH_ok tabTl_ok plainL_ok) mixed Tryd.func44 (tlL_ok nn) key
    unfold keepX at hk
    split at hk
    · split at hk
      · cases hk
      · cases hk
    · cases hk
      exact hok.nilR rfl rs_ro
end Go.Proofs.YtnhilofmafjdpaaDoor

/- Chapter 9: the law AuctionBack. -/
namespace Go.Proofs.YtnhilofmafjdpaaDoor
open Go Go.Eng
theorem cntQ_app : ∀ (a b : List Int), cntQ (a ++ b) = cntQ a + cntQ b
  | [], b => by simp [cntQ]
  | x :: r, b => by simp only [List.cons_append, cntQ, cntQ_app r b]; omega
theorem cntQ_blank : ∀ k : Nat, cntQ ((List.replicate k (32 : UInt8)).map fun b => (b.toNat : Int)) = 0
  | 0 => rfl
  | k + 1 => by
    simp only [List.replicate_succ, List.map_cons, cntQ, cntQ_blank k]; decide
theorem sumQ_app : ∀ (a b : List ByteArray), sumQ (a ++ b) = sumQ a + sumQ b
  | [], b => by simp [sumQ]
  | x :: r, b => by simp only [List.cons_append, sumQ, sumQ_app r b]; omega
theorem cnt_cell (t : ByteArray) : cntQ ((cellL t).map fun b => (b.toNat : Int)) = cntQ (bytesI t) := by
  unfold cellL
  rw [List.map_append, cntQ_app, cntQ_blank, Int.add_zero]; rfl
theorem cnt_line (a b c d : ByteArray) : cntQ (bytesI (lineS a b c d)) = cntQ (bytesI a) + (cntQ (bytesI b) + (cntQ (bytesI c) + cntQ (bytesI d))) := by
  have e : bytesI (lineS a b c d) = (cellL a ++ cellL b ++ cellL c ++ cellL d).map fun b => (b.toNat : Int) := by
    unfold bytesI lineS; simp
  rw [e, List.map_append, List.map_append, List.map_append, cntQ_app, cntQ_app, cntQ_app, cnt_cell, cnt_cell, cnt_cell, cnt_cell]; omega
theorem sum_lines (cs : List ByteArray) : ∀ n : Nat, sumQ ((List.range n).map (lineAt cs)) = sumQ ((List.range (4 * n)).map (cellAt cs))
  | 0 => rfl
  | n + 1 => by
    rw [range4, sumQ_app, List.range_succ, List.map_append, sumQ_app, sum_lines cs n, List.map_cons, List.map_nil, lineAt_is]
    simp only [sumQ, cnt_line]; omega
theorem sum_no : ∀ k : Nat, sumQ (List.replicate k noS) = 0
  | 0 => rfl
  | k + 1 => by simp only [List.replicate_succ, sumQ, sum_no k]; decide
theorem sum_dash : ∀ k : Nat, sumQ (List.replicate k dashS) = 0
  | 0 => rfl
  | k + 1 => by simp only [List.replicate_succ, sumQ, sum_dash k]; decide
theorem sum_txt : ∀ xs : List Int, allC xs = true → sumQ (xs.map txt) = 0
  | [], _ => rfl
  | c :: r, h => by
    simp only [allC, okC, Bool.and_eq_true, decide_eq_true_eq] at h
    have key : allN 38 (fun k => decide (cntQ (bytesI (txt (k : Int))) = 0)) = true := by kernel_rfl
    have hk := allN_ok key c.toNat (by omega)
    rw [show ((c.toNat : Nat) : Int) = c by omega] at hk
    simp only [List.map_cons, sumQ, sum_txt r h.2, of_decide_eq_true hk]; rfl
theorem sum_tb {d : Int} {xs : List Int} (h : allC xs = true) (o : Bool) : sumQ (lns (tbC d xs o)) = bif o then 0 else 1 := by
  unfold lns
  rw [sum_lines, cells_pad _ (by omega), sumQ_app, sum_no]
  unfold tbC withT dashes
  rw [sumQ_app, sumQ_app, sum_dash, sum_txt xs h]
  cases o with
  | true => rfl
  | false => show _ + sumQ [askS] + 0 = (1 : Int); decide
theorem lns_tw {cs : List ByteArray} (h : tidyL cs = true) : twS (lns cs) = true := by
  unfold twS lns
  rw [List.all_eq_true]
  intro s hs
  obtain ⟨k, _, rfl⟩ := List.mem_map.1 hs
  rw [lineAt_is]
  exact decide_eq_true (line_cut (cellAt_tidy h _) (cellAt_tidy h _) (cellAt_tidy h _) (cellAt_tidy h _)).1
theorem lns_len (cs : List ByteArray) : (lns cs).length = (cs.length + 3) / 4 := by unfold lns; simp
theorem eqS_refl : ∀ l : List ByteArray, eqS l l = true
  | [] => rfl
  | x :: r => by simp only [eqS, eqS_refl r, strEq_iff.2 rfl, Bool.and_self]
/-- auction.Read of a table that Table made. -/
theorem read_table {d : Int} {xs : List Int} (hk : okA d xs = true) (hr : (fol d xs).e = 0) : rvD (tblV (fol d xs) d xs) = d ∧ rvE (tblV (fol d xs) d xs) = 0 ∧ rvL (tblV (fol d xs) d xs) = xs := by
  obtain ⟨h0, h1, h2⟩ := fol_ok hk hr
  have hl := right_len hk hr
  have hT : tblV (fol d xs) d xs = lns (tbC d xs (ovr (fol d xs).s)) := by unfold tblV; rw [decide_eq_true hr]; rfl
  have hb := back_lines ⟨h0, h1⟩ h2 (ovr (fol d xs).s)
  rw [← hT] at hb
  have hlen : (tblV (fol d xs) d xs).length ≤ 81 := by
    rw [hT, lns_len]
    have := tbC_len (d := d) xs h0 (ovr (fol d xs).s)
    cases ho : ovr (fol d xs).s <;> rw [ho] at this <;> simp only [cond_true, cond_false] at this <;> omega
  have hok : rOk (tblV (fol d xs) d xs) = true := by
    unfold rOk
    rw [hb]
    simp only [Bool.true_and, Bool.and_eq_true, decide_eq_true_eq]
    exact ⟨hlen, hr, trivial, eqS_refl _⟩
  unfold rvD rvE rvL
  rw [hok, hb]; exact ⟨rfl, rfl, rfl⟩
/-! ### the law -/
noncomputable def fB : Option V := some (.bool false)
noncomputable def bkF (B : BN) (D s c : Int) (X : List Int) (T : List ByteArray) (BE OE : Int) (OB : Bool) : Option V :=
  bif decide (wr .i64 (wr .i64 (BE + B.VE T) + OE) = 0) then bif decide (B.VD T = D) then bif B.K.KL (B.VL T) then bif B.K.EQ (B.VL T) X then bif !(eqB (decide (s = 1)) OB) then bif decide (s ≤ 1) then
  some (.bool (decide (Int.ofNat T.length = wr .i64 ((wr .i64 (c + 3)).tdiv 4)))) else fB else fB else fB else none else fB else fB
noncomputable def bkE (B : BN) (C : List ByteArray → Bool) (SQ : List ByteArray → Int) (d D : Int) (xs X : List Int) (T : List ByteArray) : Option V :=
  bif pB (textsL = textsL) then bif B.K.MK d xs then bif pB (textsL = textsL) && (B.K.N.K D X && B.K.N.KT X) then bif pB (textsL = textsL) then bif B.K.N.K D X then cond (codesB [(b1Lp, b1Lp)])
    (bif decide ((0 : Int) = 0 ∧ (0 : Int) = 0 ∧ Int.ofNat T.length = Int.ofNat T.length) && C T then bif !B.K.N.OB D X then bkF B D (SQ T) (wr .i64 (wr .i64 (wr .i64 D + Int.ofNat X.length) + 1)) X T (B.K.N.BE D X) (B.K.N.OE D X) (B.K.N.OB D X)
      else bkF B D (SQ T) (wr .i64 (wr .i64 D + Int.ofNat X.length)) X T (B.K.N.BE D X) (B.K.N.OE D X) (B.K.N.OB D X) else none) none else none else none else none else none else none
theorem back_eval (B : BN) (C : List ByteArray → Bool) (SQ : List ByteArray → Int) (nn fin : Bool) (d : Int) (xs : List Int) : evalFn Tryd.prog (orcB B emptyTab plainL) (b1L C SQ nn) 100 10 Tryd.f10 [.int .u8 d, .gs 1, .bool fin] (gH ++ [.rs nn 1 (.ints .u8 xs)]) (fun v _ => some v) =
    bkE B C SQ d (d.tmod 4) xs (B.K.MD d xs fin) (B.K.N.BV (d.tmod 4) (B.K.MD d xs fin)) := by cases nn <;> kernel_rfl
theorem bkF_true {D s c BE OE : Int} {X : List Int} {T : List ByteArray} {OB : Bool} (h1 : BE = 0) (h2 : OE = 0) (h3 : rvE T = 0) (h4 : rvD T = D) (h5 : rvL T = X) (hX : X.length ≤ 319) (h6 : s = bif OB then 0 else 1) (h7 : (T.length : Int) = (c + 3) / 4) (h8 : 0 ≤ c ∧ c ≤ 1000) : bkF bN D s c X T BE OE OB = some (.bool true) := by
  unfold bkF
  rw [h1, h2, show bN.VE T = 0 from h3, show bN.VD T = D from h4, show bN.VL T = X from h5, show bN.K.KL X = true from decide_eq_true (by omega), show bN.K.EQ X X = true from eqI_iff.2 rfl, decide_eq_true (rfl : D = D), wr64 (n := c + 3) (by omega) (by omega), Int.tdiv_eq_ediv_of_nonneg (by omega),
    wr64 (n := (c + 3) / 4) (by omega) (by omega), decide_eq_true (show Int.ofNat T.length = (c + 3) / 4 from h7), decide_eq_true (show wr .i64 (wr .i64 (0 + 0) + 0) = 0 from rfl), h6]
  cases OB <;> rfl
theorem back_true (nn fin : Bool) {d : Int} {xs : List Int} (hd : 0 ≤ d) (hu : allU xs = true) : evalFn Tryd.prog (orcB bN emptyTab plainL) (b1L bkC sumQ nn) 100 10 Tryd.f10 [.int .u8 d, .gs 1, .bool fin] (gH ++ [.rs nn 1 (.ints .u8 xs)]) (fun v _ => some v) = some (.bool true) := by
  obtain ⟨hok, _⟩ := made_ok hd hu fin
  have hr := made_right hd hu fin
  have hl := right_len hok hr
  have hMK : bN.K.MK d xs = true := by show mK d xs = true; unfold mK; rw [hu, decide_eq_true hd]; rfl
  rw [back_eval]
  unfold bkE
  rw [pB_iff.2 rfl, hMK, show bN.K.MD d xs fin = made d xs fin from rfl]
  generalize d.tmod 4 = D at *
  generalize made d xs fin = X at *
  obtain ⟨q0, q1, q2⟩ := fol_ok hok hr
  obtain ⟨v1, v2, v3⟩ := read_table hok hr
  have hT : tblV (fol D X) D X = lns (tbC D X (ovr (fol D X).s)) := by unfold tblV; rw [decide_eq_true hr]; rfl
  have hlen := tbC_len (d := D) X q0 (ovr (fol D X).s)
  have hsum := sum_tb (d := D) q2 (ovr (fol D X).s)
  have htw := lns_tw (tbC_tidy (d := D) q2 (ovr (fol D X).s))
  have hll := lns_len (tbC D X (ovr (fol D X).s))
  rw [← hT] at hsum htw hll
  have hBV : bN.K.N.BV D X = tblV (fol D X) D X := rfl
  have hBE : bN.K.N.BE D X = 0 := by show tblE (fol D X) = 0; unfold tblE; rw [decide_eq_true hr]; rfl
  have hOE : bN.K.N.OE D X = 0 := by show ovE (fol D X) = 0; unfold ovE okU; rw [decide_eq_true hr]; rfl
  have hOB : bN.K.N.OB D X = ovr (fol D X).s := by show ovB (fol D X) = _; unfold ovB; rw [decide_eq_true hr]; rfl
  rw [hBV]
  generalize tblV (fol D X) D X = T at *
  have hof : Int.ofNat X.length = (X.length : Int) := rfl
  have hC : bkC T = true := by
    unfold bkC
    rw [htw, decide_eq_true (show T.length ≤ 1000 by cases ho : ovr (fol D X).s <;> rw [ho] at hlen hll <;> simp only [cond_true, cond_false] at hlen <;> omega)]; rfl
  rw [hC, show bN.K.N.K D X = true from hok, show bN.K.N.KT X = true from decide_eq_true (by omega), lpCd, decide_eq_true (⟨rfl, rfl, rfl⟩ : (0 : Int) = 0 ∧ (0 : Int) = 0 ∧ Int.ofNat T.length = Int.ofNat T.length), hOB, hof, wr64 (n := D) (by omega) (by omega), wr64 (n := D + (X.length : Int)) (by omega) (by omega), wr64 (n := D + (X.length : Int) + 1) (by omega) (by omega)]
  simp only [cond_true, Bool.and_self]
  cases ho : ovr (fol D X).s with
  | true =>
    rw [ho] at hlen hll hsum
    simp only [cond_true] at hlen
    exact bkF_true hBE hOE v2 v1 v3 hl hsum (by omega) (by omega)
  | false =>
    rw [ho] at hlen hll hsum
    simp only [cond_false] at hlen
    exact bkF_true hBE hOE v2 v1 v3 hl hsum (by omega) (by omega)
end Go.Proofs.YtnhilofmafjdpaaDoor
