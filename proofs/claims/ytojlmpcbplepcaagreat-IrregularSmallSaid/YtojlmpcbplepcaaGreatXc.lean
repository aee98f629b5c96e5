/- Texts merged: Xc, Xd, Xe, Xf. -/
import Derived.Test.YtojlmpcbplepcaaGreatXb
import Derived.Test.YtojlmpcbplepcaaGreatKit10
/- Chapter 10: the reference's small functions over lists of calls: contracts. -/
namespace Go.Proofs.YtojlmpcbplepcaaGreat
open Go Go.Eng
theorem pick2 {p : Prop} {c : Bool} {e1 e2 e : XE} {s1 s2 s : AS} (h : (Fin.br (pB p) (.br c (.leaf e1 s1) (.leaf e2 s2)) .no).pick = some (e, s)) : p ∧ ((c = true ∧ e1 = e ∧ s1 = s) ∨ (c = false ∧ e2 = e ∧ s2 = s)) := by
  simp only [Fin.pick] at h
  cases hp : pB p with
  | false => rw [hp] at h; cases h
  | true =>
    rw [hp, cond_true] at h
    cases c with
    | true => cases h; exact ⟨pB_iff.1 hp, .inl ⟨rfl, rfl, rfl⟩⟩
    | false => cases h; exact ⟨pB_iff.1 hp, .inr ⟨rfl, rfl, rfl⟩⟩
theorem pick1 {p : Prop} {e1 e : XE} {s1 s : AS} (h : (Fin.br (pB p) (.leaf e1 s1) .no).pick = some (e, s)) : p ∧ e1 = e ∧ s1 = s := by
  simp only [Fin.pick] at h
  cases hp : pB p with
  | false => rw [hp] at h; cases h
  | true => rw [hp, cond_true] at h; cases h; exact ⟨pB_iff.1 hp, rfl, rfl⟩
structure NG where
  OK : List Int → Bool
  IB : Int → Bool
  LB : List Int → Int
  HG : List Int → Int
  EN : List Int → Bool
  FR : List Int → Int → Bool
  AM : List Int → Int → Bool
def lbR (xs : List Int) : Int := bif hasB xs then lastI xs else -1
def nG : NG := ⟨okL, isBid, lbR, lbI, tzE, rfrI, amB⟩
noncomputable def t113 (HB : List Int → Bool) (LI : List Int → Int) : List PV → Fin
  | [.i i, .l xs] => .br (pB (i = wr .i64 (Int.ofNat xs.length - 1) ∧ xs.length ≤ 100000)) (.br (HB xs) (.leaf .ret (x113X.at [.i (LI xs), .l xs])) (.leaf (.exit 0) (x113Y.at [.l xs]))) .no
  | _ => .no
noncomputable def t109 (TZ : List Int → Int) : List PV → Fin
  | [.i n, .i i, .l xs] => .br (pB (n = 0 ∧ i = wr .i64 (Int.ofNat xs.length - 1) ∧ xs.length ≤ 100000)) (.leaf (.exit 0) (x109X.at [.i (TZ xs), .l xs])) .no
  | _ => .no
noncomputable def t100 (AZ : List Int → Bool) (FW : List Int → Int → Bool) : List PV → Fin
  | [.i x, .i i, .l xs] => .br (pB (i = wr .i64 (Int.ofNat xs.length - 1) ∧ xs.length ≤ 100000)) (.br (AZ xs) (.leaf (.exit 0) (x100Y.at [.l xs])) (.leaf .ret (x100X.at [.b (FW xs x), .l xs]))) .no
  | _ => .no
noncomputable def t101 (AM : List Int → Int → Bool) : List PV → Fin
  | [.i x, .i i, .l xs] => .br (pB (i = 0 ∧ xs.length ≤ 100000)) (.br (AM xs x) (.leaf .ret (x101X.at [.b true, .l xs])) (.leaf (.exit 0) (x101Y.at [.l xs]))) .no
  | _ => .no
noncomputable def t114 (AM : List Int → Int → Bool) : List PV → Fin
  | [.i x, .i i, .l xs, .l ac, _, _, _, _, _, _, _, _, _, _, _, _, _, _] => .br (pB (i = 0 ∧ ac.length ≤ 200000)) (.br (AM ac x) (.leaf .ret (x114X.at [.b true, .l xs, .l ac])) (.leaf (.exit 0) (x114Y.at [.l xs, .l ac]))) .no
  | _ => .no
noncomputable def L113 (HB : List Int → Bool) (LI : List Int → Int) : Loops := sums (fun n => match n with | 2 => some (lsumD 1 x113T xLp113 (t113 HB LI) noSum) | _ => none)
noncomputable def L109 (TZ : List Int → Int) : Loops := sums (fun n => match n with | 3 => some (lsumD 1 x109T xLp109 (t109 TZ) noSum) | _ => none)
noncomputable def L100 (AZ : List Int → Bool) (FW : List Int → Int → Bool) : Loops := sums (fun n => match n with | 6 => some (lsumD 1 x100T xLp100 (t100 AZ FW) noSum) | _ => none)
noncomputable def L101 (AM : List Int → Int → Bool) : Loops := sums (fun n => match n with | 2 => some (lsumD 1 x101T xLp101 (t101 AM) noSum) | _ => none)
noncomputable def L114 (AM : List Int → Int → Bool) : Loops := sums (fun n => match n with | 2 => some (lsumD 2 x114T xLp114 (t114 AM) noSum) | _ => none)
theorem wrL {xs : List Int} (h : xs.length ≤ 100000) : wr .i64 (Int.ofNat xs.length - 1) = (xs.length : Int) - 1 := wr64 (by show _ ≤ (xs.length : Int) - 1; omega) (by show (xs.length : Int) - 1 < _; omega)
theorem L113_ok : loopsOk Tryz.prog (L113 hasB lastI) := by
  intro n g hg
  simp only [L113, sums] at hg
  split at hg
  · cases hg
    refine lsumD_ok (by kernel_rfl) (fun rd ps e s h => ?_) noSum_ok
    unfold t113 at h
    split at h
    · rename_i i xs
      obtain ⟨⟨rfl, hl⟩, hc⟩ := pick2 h
      obtain ⟨m, hm⟩ := l113 rd xs hl xs.length (Nat.le_refl _)
      rw [wrL hl]
      unfold lbF at hm
      rcases hc with ⟨c1, rfl, rfl⟩ | ⟨c1, rfl, rfl⟩
      · rw [show (lastN xs xs.length).2 = true from c1] at hm; exact hm.loop
      · rw [show (lastN xs xs.length).2 = false from c1] at hm; exact hm.loop
    · cases h
  · cases hg
theorem L109_ok : loopsOk Tryz.prog (L109 fun xs => (tz xs : Int)) := by
  intro n g hg
  simp only [L109, sums] at hg
  split at hg
  · cases hg
    refine lsumD_ok (by kernel_rfl) (fun rd ps e s h => ?_) noSum_ok
    unfold t109 at h
    split at h
    · rename_i n i xs
      obtain ⟨⟨rfl, rfl, hl⟩, rfl, rfl⟩ := pick1 h
      obtain ⟨m, hm⟩ := l109 rd xs hl (xs.length, 0) ⟨Nat.le_refl _, by omega⟩
      dsimp only at hm
      rw [wrL hl]
      rw [tzN_is _ _ rfl, Nat.zero_add] at hm
      exact hm.loop
    · cases h
  · cases hg
theorem L100_ok : loopsOk Tryz.prog (L100 (fun xs => allz xs xs.length) (fun xs x => frW xs x xs.length)) := by
  intro n g hg
  simp only [L100, sums] at hg
  split at hg
  · cases hg
    refine lsumD_ok (by kernel_rfl) (fun rd ps e s h => ?_) noSum_ok
    unfold t100 at h
    split at h
    · rename_i x i xs
      obtain ⟨⟨rfl, hl⟩, hc⟩ := pick2 h
      obtain ⟨m, hm⟩ := l100 rd xs x hl xs.length (Nat.le_refl _)
      rw [wrL hl]
      unfold frF at hm
      rcases hc with ⟨c1, rfl, rfl⟩ | ⟨c1, rfl, rfl⟩
      · rw [show allz xs xs.length = true from c1] at hm; exact hm.loop
      · rw [show allz xs xs.length = false from c1] at hm; exact hm.loop
    · cases h
  · cases hg
theorem L101_ok : loopsOk Tryz.prog (L101 amB) := by
  intro n g hg
  simp only [L101, sums] at hg
  split at hg
  · cases hg
    refine lsumD_ok (by kernel_rfl) (fun rd ps e s h => ?_) noSum_ok
    unfold t101 at h
    split at h
    · rename_i x i xs
      obtain ⟨⟨rfl, hl⟩, hc⟩ := pick2 h
      obtain ⟨m, hm⟩ := l101 rd xs x hl 0 (Nat.zero_le _)
      rw [List.drop_zero] at hm
      unfold amF at hm
      rcases hc with ⟨c1, rfl, rfl⟩ | ⟨c1, rfl, rfl⟩
      · rw [c1] at hm; exact hm.loop
      · rw [c1] at hm; exact hm.loop
    · cases h
  · cases hg
theorem L114_ok : loopsOk Tryz.prog (L114 amB) := by
  intro n g hg
  simp only [L114, sums] at hg
  split at hg
  · cases hg
    refine lsumD_ok (by kernel_rfl) (fun rd ps e s h => ?_) noSum_ok
    unfold t114 at h
    split at h
    · rename_i x i xs ac v1 v2 v3 v4 v5 v6 v7 v8 v9 v10 v11 v12 v13 v14
      obtain ⟨⟨rfl, hl⟩, hc⟩ := pick2 h
      obtain ⟨m, hm⟩ := l114 rd xs ac ⟨v1.toI, ⟨v2.toI, v3.toI, v4.toI, v5.toI⟩, ⟨v6.toI, v7.toI, v8.toI, v9.toI⟩, v10.toI, ⟨v11.toI, v12.toI, v13.toI, v14.toI⟩⟩ x hl 0 (Nat.zero_le _)
      rw [List.drop_zero] at hm
      unfold amG at hm
      rcases hc with ⟨c1, rfl, rfl⟩ | ⟨c1, rfl, rfl⟩
      · rw [c1] at hm; exact hm.loop
      · rw [c1] at hm; exact hm.loop
    · cases h
  · cases hg
end Go.Proofs.YtojlmpcbplepcaaGreat

/- Chapter 10: the reference's small functions over lists of calls: their formulas. -/
namespace Go.Proofs.YtojlmpcbplepcaaGreat
open Go Go.Eng
def g113 (R : NG) : List V → List Blk → Option (Bool × V × List Blk)
  | [.gs 0], [.rs _ 1 (.ints .u8 xs)] => some (R.OK xs, .int .i64 (R.LB xs), [])
  | _, _ => none
def g106 (R : NG) : List V → List Blk → Option (Bool × V × List Blk)
  | [.gs 0], [.rs _ 1 (.ints .u8 xs)] => some (R.OK xs, .int .u8 (R.HG xs), [])
  | _, _ => none
def g109 (R : NG) : List V → List Blk → Option (Bool × V × List Blk)
  | [.gs 0], [.rs _ 1 (.ints .u8 xs)] => some (R.OK xs, .bool (R.EN xs), [])
  | _, _ => none
def g100 (R : NG) : List V → List Blk → Option (Bool × V × List Blk)
  | [.gs 0, .int .u8 x], [.rs _ 1 (.ints .u8 xs)] => some (R.OK xs, .bool (R.FR xs x), [])
  | _, _ => none
def g101 (R : NG) : List V → List Blk → Option (Bool × V × List Blk)
  | [.gs 0, .int .u8 x], [.rs _ 1 (.ints .u8 xs)] => some (R.OK xs, .bool (R.AM xs x), [])
  | _, _ => none
noncomputable abbrev orcG (R : NG) (dom : FuncId → Bool) (H : HTab) : Oracle := inl Tryz.prog ftab (tabIB R.IB) plainL 100 never dom (hOrcX nrC H) 20
theorem orcG_ok {dom : FuncId → Bool} {H : HTab} (hH : HTabOk Tryz.prog H) : OracleOk Tryz.prog (orcG nG dom H) := inl_ok (hOrcX_ok hH) ftab_ok tabIB_ok plainL_ok mixed 20
def domG1 : FuncId → Bool := fun f => Nat.beq f 68
def domG2 : FuncId → Bool := fun f => Nat.beq f 64
def hT1 (R : NG) : HTab := addH 68 (g113 R) emptyH
def hT2 (R : NG) : HTab := addH 64 (g106 R) emptyH
theorem e113 (HB : List Int → Bool) (LI : List Int → Int) (xs : List Int) : evalFn Tryz.prog (orcE (tabIB isBid) plainL) (L113 HB LI) 100 68 Tryz.f68 [.gs 0] [.rs false 1 (.ints .u8 xs)] (fun v _ => some v) =
    cond (codesB [(xLp113, xLp113)]) (bif pB (wr .i64 (Int.ofNat xs.length - 1) = wr .i64 (Int.ofNat xs.length - 1) ∧ xs.length ≤ 100000) then bif HB xs then some (.int .i64 (LI xs)) else some (.int .i64 (-1)) else none) none := by kernel_rfl
theorem e106 (R : NG) (xs : List Int) : evalFn Tryz.prog (orcG R domG1 (hT1 R)) noLoops 100 64 Tryz.f64 [.gs 0] [.rs false 1 (.ints .u8 xs)] (fun v _ => some v) =
    bif R.OK xs then bif decide (R.LB xs < 0) then some (.int .u8 0) else bif R.OK xs then atU xs (R.LB xs) (fun v => some (.int .u8 v)) else none else none := by kernel_rfl
theorem e109 (R : NG) (TZ : List Int → Int) (xs : List Int) : evalFn Tryz.prog (orcG R domG1 (hT1 R)) (L109 TZ) 100 53 Tryz.f53 [.gs 0] [.rs false 1 (.ints .u8 xs)] (fun v _ => some v) =
    cond (codesB [(xLp109, xLp109)]) (bif pB ((0 : Int) = 0 ∧ wr .i64 (Int.ofNat xs.length - 1) = wr .i64 (Int.ofNat xs.length - 1) ∧ xs.length ≤ 100000) then bif decide (TZ xs = 4) then some (.bool true) else bif decide (TZ xs = 3) then bif R.OK xs then some (.bool (decide (0 ≤ R.LB xs))) else none else some (.bool false) else none) none := by kernel_rfl
theorem e100 (R : NG) (AZ : List Int → Bool) (FW : List Int → Int → Bool) (xs : List Int) (x : Int) : evalFn Tryz.prog (orcG R domG2 (hT2 R)) (L100 AZ FW) 100 59 Tryz.f59 [.gs 0, .int .u8 x] [.rs false 1 (.ints .u8 xs)] (fun v _ => some v) =
    bif decide (x = 0) then some (.bool true) else bif decide (3 ≤ x) then bif decide (x < 38) then bif R.OK xs then some (.bool (decide (R.HG xs < x))) else none else some (.bool false) else
    cond (codesB [(xLp100, xLp100)]) (bif pB (wr .i64 (Int.ofNat xs.length - 1) = wr .i64 (Int.ofNat xs.length - 1) ∧ xs.length ≤ 100000) then bif AZ xs then some (.bool false) else some (.bool (FW xs x)) else none) none := by kernel_rfl
theorem e101 (AM : List Int → Int → Bool) (xs : List Int) (x : Int) : evalFn Tryz.prog (orcE (tabIB isBid) plainL) (L101 AM) 100 62 Tryz.f62 [.gs 0, .int .u8 x] [.rs false 1 (.ints .u8 xs)] (fun v _ => some v) =
    cond (codesB [(xLp101, xLp101)]) (bif pB ((0 : Int) = 0 ∧ xs.length ≤ 100000) then bif AM xs x then some (.bool true) else some (.bool false) else none) none := by kernel_rfl
theorem e114 (AM : List Int → Int → Bool) (xs ac : List Int) (s : CD) (x : Int) : evalFn Tryz.prog (orcE (tabIB isBid) plainL) (L114 AM) 100 71 Tryz.f71 [.agg (s.vs (.gs 0) (.gs 1)), .int .i64 x] (crsH false false xs ac) (fun v _ => some v) =
    cond (codesB [(xLp114, xLp114)]) (bif pB ((0 : Int) = 0 ∧ ac.length ≤ 200000) then bif AM ac x then some (.bool true) else some (.bool false) else none) none := by kernel_rfl
end Go.Proofs.YtojlmpcbplepcaaGreat

/- Chapter 10: the reference's small functions over lists of calls: they answer what is said of them. -/
namespace Go.Proofs.YtojlmpcbplepcaaGreat
open Go Go.Eng
theorem okL_len {xs : List Int} (h : okL xs = true) : xs.length ≤ 100000 := (okL_iff.1 h).1
theorem list_fn {C : Oracle} {L : Loops} {f : FuncId} {fn : Func} {args : List V} {xs : List Int} {v : V} (hC : OracleOk Tryz.prog C) (hL : loopsOk Tryz.prog L) (hf : Tryz.prog.funcs[f]? = some fn) (hv : plainV v = true)
    (h : evalFn Tryz.prog C L 100 f fn args [.rs false 1 (.ints .u8 xs)] (fun v _ => some v) = some v) (nn : Bool) : FnOK Tryz.prog f args [.rs nn 1 (.ints .u8 xs)] v ([.rs nn 1 (.ints .u8 xs)] ++ []) := by
  obtain ⟨v1, h1, hk, hok⟩ := evalFn_ok hC mixed hf hL h
  cases hk
  exact FnOK.hard rfl (by rw [List.append_nil]; exact hok.plain hv rs_ro)
theorem f113 (nn : Bool) {xs : List Int} (h : okL xs = true) : FnOK Tryz.prog 68 [.gs 0] [.rs nn 1 (.ints .u8 xs)] (.int .i64 (lbR xs)) ([.rs nn 1 (.ints .u8 xs)] ++ []) := by
  refine list_fn (orcE_ok tabIB_ok plainL_ok) L113_ok Tryz.func68 rfl ?_ nn
  rw [e113, lpCd10, pB_iff.2 ⟨rfl, okL_len h⟩]
  unfold lbR
  cases hasB xs <;> rfl
theorem hT1_ok : HTabOk Tryz.prog (hT1 nG) := by
  refine addH_ok ?_ emptyH_ok
  intro args h c v nb hq hc
  unfold g113 at hq
  split at hq
  · cases hq; exact ⟨.of Tryz.func68 (by kernel_rfl), f113 _ hc⟩
  · cases hq
theorem lbR_neg (xs : List Int) : decide (lbR xs < 0) = !hasB xs := by
  unfold lbR
  have h1 := lastI_range xs
  cases hb : hasB xs with
  | true => rw [cond_true, decide_eq_false (by omega)]; rfl
  | false => rfl
theorem lbR_nn (xs : List Int) : decide (0 ≤ lbR xs) = hasB xs := by
  unfold lbR
  have h1 := lastI_range xs
  cases hb : hasB xs with
  | true => rw [cond_true, decide_eq_true (by omega)]
  | false => rfl
theorem f106 (nn : Bool) {xs : List Int} (h : okL xs = true) : FnOK Tryz.prog 64 [.gs 0] [.rs nn 1 (.ints .u8 xs)] (.int .u8 (lbI xs)) ([.rs nn 1 (.ints .u8 xs)] ++ []) := by
  refine list_fn (orcG_ok (dom := domG1) hT1_ok) noLoops_ok Tryz.func64 rfl ?_ nn
  rw [e106, show nG.OK xs = true from h, show nG.LB xs = lbR xs from rfl, lbR_neg]
  have h1 := lastI_range xs
  unfold lbR lbI
  cases hb : hasB xs with
  | true =>
    have h2 := h1.2.2.1 hb
    obtain ⟨k, hk⟩ : ∃ k : Nat, lastI xs = (k : Int) := ⟨(lastI xs).toNat, by omega⟩
    simp only [Bool.not_true, cond_true, cond_false]
    rw [hk, atU_at (show k < xs.length by omega), getD_el]; rfl
  | false => rfl
theorem hT2_ok : HTabOk Tryz.prog (hT2 nG) := by
  refine addH_ok ?_ emptyH_ok
  intro args h c v nb hq hc
  unfold g106 at hq
  split at hq
  · cases hq; exact ⟨.of Tryz.func64 (by kernel_rfl), f106 _ hc⟩
  · cases hq
theorem f109 (nn : Bool) {xs : List Int} (h : okL xs = true) : FnOK Tryz.prog 53 [.gs 0] [.rs nn 1 (.ints .u8 xs)] (.bool (tzE xs)) ([.rs nn 1 (.ints .u8 xs)] ++ []) := by
  refine list_fn (orcG_ok (dom := domG1) hT1_ok) L109_ok Tryz.func53 rfl ?_ nn
  rw [e109, lpCd10, pB_iff.2 ⟨rfl, rfl, okL_len h⟩, show nG.OK xs = true from h, show nG.LB xs = lbR xs from rfl, lbR_nn]
  unfold tzE
  have a1 : decide ((tz xs : Int) = 4) = decide (tz xs = 4) := by rw [Bool.eq_iff_iff, decide_eq_true_eq, decide_eq_true_eq]; omega
  have a2 : decide ((tz xs : Int) = 3) = decide (tz xs = 3) := by rw [Bool.eq_iff_iff, decide_eq_true_eq, decide_eq_true_eq]; omega
  rw [a1, a2]
  cases decide (tz xs = 4) <;> cases decide (tz xs = 3) <;> rfl
theorem f100 (nn : Bool) {xs : List Int} (h : okL xs = true) (x : Int) : FnOK Tryz.prog 59 [.gs 0, .int .u8 x] [.rs nn 1 (.ints .u8 xs)] (.bool (rfrI xs x)) ([.rs nn 1 (.ints .u8 xs)] ++ []) := by
  refine list_fn (orcG_ok (dom := domG2) hT2_ok) L100_ok Tryz.func59 rfl ?_ nn
  rw [e100, lpCd10, pB_iff.2 ⟨rfl, okL_len h⟩, show nG.OK xs = true from h, show nG.HG xs = lbI xs from rfl]
  unfold rfrI
  cases decide (x = 0) with
  | true => rfl
  | false =>
    cases decide (3 ≤ x) with
    | true => cases decide (x < 38) <;> rfl
    | false =>
      simp only [cond_false, cond_true]
      cases ha : allz xs xs.length with
      | true => rw [allz_frW _ ha]; rfl
      | false => rfl
theorem f101 (nn : Bool) {xs : List Int} (h : okL xs = true) (x : Int) : FnOK Tryz.prog 62 [.gs 0, .int .u8 x] [.rs nn 1 (.ints .u8 xs)] (.bool (amB xs x)) ([.rs nn 1 (.ints .u8 xs)] ++ []) := by
  refine list_fn (orcE_ok tabIB_ok plainL_ok) L101_ok Tryz.func62 rfl ?_ nn
  rw [e101, lpCd10, pB_iff.2 ⟨rfl, okL_len h⟩]
  cases amB xs x <;> rfl
theorem crs_fn {C : Oracle} {L : Loops} {f : FuncId} {fn : Func} {args : List V} {xs ac : List Int} {v : V} (hC : OracleOk Tryz.prog C) (hL : loopsOk Tryz.prog L) (hf : Tryz.prog.funcs[f]? = some fn) (hv : plainV v = true)
    (h : evalFn Tryz.prog C L 100 f fn args (crsH false false xs ac) (fun v _ => some v) = some v) (n1 n2 : Bool) : FnOK Tryz.prog f args (crsH n1 n2 xs ac) v (crsH n1 n2 xs ac ++ []) := by
  obtain ⟨v1, h1, hk, hok⟩ := evalFn_ok hC mixed hf hL h
  cases hk
  exact FnOK.hard rfl (by rw [List.append_nil]; exact hok.plain hv crs_ro)
theorem f114 (n1 n2 : Bool) {s : CD} {xs ac : List Int} (h : lenOk ac = true) (x : Int) : FnOK Tryz.prog 71 [.agg (s.vs (.gs 0) (.gs 1)), .int .i64 x] (crsH n1 n2 xs ac) (.bool (accB ac x)) (crsH n1 n2 xs ac ++ []) := by
  refine crs_fn (orcE_ok tabIB_ok plainL_ok) L114_ok Tryz.func71 rfl ?_ n1 n2
  rw [e114, lpCd10, pB_iff.2 ⟨rfl, of_decide_eq_true h⟩, show amB ac x = accB ac x from rfl]
  cases accB ac x <;> rfl
def g114 (CK : List Int → Bool) : CH
  | [.agg l, .int .i64 x], [.rs _ 1 (.ints .u8 _), .rs _ 1 (.ints .i64 ac)] => match ofCrs l with
    | some (_, .gs 0, .gs 1) => some (CK ac, .bool (accB ac x), [])
    | _ => none
  | _, _ => none
def hTG (R : NG) (H : HTab) : HTab := addH 68 (g113 R) (addH 64 (g106 R) (addH 53 (g109 R) (addH 59 (g100 R) (addH 62 (g101 R) (addH 71 (g114 lenOk) H)))))
def domG (dom : FuncId → Bool) : FuncId → Bool := fun f => (Nat.beq f 68 || (Nat.beq f 64 || (Nat.beq f 53 || (Nat.beq f 59 || (Nat.beq f 62 || Nat.beq f 71))))) || dom f
theorem hTG_ok {H : HTab} (hH : HTabOk Tryz.prog H) : HTabOk Tryz.prog (hTG nG H) := by
  refine addH_ok ?_ (addH_ok ?_ (addH_ok ?_ (addH_ok ?_ (addH_ok ?_ (addH_ok ?_ hH)))))
  · intro args h c v nb hq hc
    unfold g113 at hq
    split at hq
    · cases hq; exact ⟨.of Tryz.func68 (by kernel_rfl), f113 _ hc⟩
    · cases hq
  · intro args h c v nb hq hc
    unfold g106 at hq
    split at hq
    · cases hq; exact ⟨.of Tryz.func64 (by kernel_rfl), f106 _ hc⟩
    · cases hq
  · intro args h c v nb hq hc
    unfold g109 at hq
    split at hq
    · cases hq; exact ⟨.of Tryz.func53 (by kernel_rfl), f109 _ hc⟩
    · cases hq
  · intro args h c v nb hq hc
    unfold g100 at hq
    split at hq
    · cases hq; exact ⟨.of Tryz.func59 (by kernel_rfl), f100 _ hc _⟩
    · cases hq
  · intro args h c v nb hq hc
    unfold g101 at hq
    split at hq
    · cases hq; exact ⟨.of Tryz.func62 (by kernel_rfl), f101 _ hc _⟩
    · cases hq
  · intro args h c v nb hq hc
    unfold g114 at hq
    split at hq
    · split at hq
      · rename_i hs
        cases hq
        rw [ofCrs_ok hs]
        exact ⟨.of Tryz.func71 (by kernel_rfl), f114 _ _ hc _⟩
      · cases hq
    · cases hq
end Go.Proofs.YtojlmpcbplepcaaGreat

/- Chapter 10: the reference's Right: templates. -/
namespace Go.Proofs.YtojlmpcbplepcaaGreat
open Go Go.Eng
def noDom : FuncId → Bool := fun _ => false
noncomputable abbrev orcR (R : NG) : Oracle := orcG R (domG noDom) (hTG R emptyH)
theorem orcR_ok : OracleOk Tryz.prog (orcR nG) := orcG_ok (hTG_ok emptyH_ok)
abbrev crsB : List TB := [.rs false 1 u8L, .rs false 1 (.ints .i64), .own 35 (.vs (crsT (.gs 0) (.gs 1)))]
noncomputable def xLp9 : Code := loopOf 9 Tryz.f25
noncomputable def xLp14 : Code := loopOf 14 Tryz.f25
def x9T : Tm := ⟨mkS [(1, .ptr 2 0), (4, .int .i64)] 0 142, crsB, []⟩
def x14T : Tm := ⟨mkS [(1, .ptr 2 0), (5, .int .i64)] 0 142, crsB, []⟩
def x85N : Tm := ⟨mkS [(1, .ptr 2 0)] 0 142, crsB, []⟩
def x85R : Tm := ⟨mkS [(2, .bool)] 0 142, [.rs false 1 u8L, .rs false 1 (.ints .i64)], []⟩
end Go.Proofs.YtojlmpcbplepcaaGreat
