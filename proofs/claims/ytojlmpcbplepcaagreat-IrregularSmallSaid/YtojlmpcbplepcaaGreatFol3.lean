/- Texts merged: Fol3, Ctr, Ctr2, Lst, Lst2. -/
import Derived.Test.YtojlmpcbplepcaaGreatFol2
/- Chapter 9: follow's contract; Check, Over, Turn. -/
namespace Go.Proofs.YtojlmpcbplepcaaGreat
open Go Go.Eng
def smallL (xs : List Int) : Bool := decide (xs.length ≤ 9223372036854775806)
def okA (d : Int) (xs : List Int) : Bool := decide (0 ≤ d) && (smallL xs && allU xs)
theorem rs_ro {nn : Bool} {row : Row} : ∀ (b : Nat) blk, ([.rs nn 1 row] : List Blk)[b]? = some blk → blk.mine = false := by
  intro b blk hb
  match b, hb with
  | 0, hb => cases hb; rfl
  | _ + 1, hb => simp at hb
def folV (F : FR) : V := .tuple [.agg F.s.vs, .int .i64 F.at_, .int .i64 F.e]
theorem foCd : codesB [(foLp, foLp)] = true := by rw [codesB_iff]; intro x hx; simp at hx; rw [hx]
theorem flw_st (xs : List Int) : ∀ (i : Nat) (s : St), (flw xs i s).e = 0 → (flw xs i s).at_ = -1 := by
  induction xs with
  | nil => intro i s _; rfl
  | cons c r ih =>
    intro i s h
    unfold flw at h ⊢
    by_cases hb : chk s c = 0
    · rw [decide_eq_true hb] at h ⊢; exact ih _ _ h
    · rw [decide_eq_false hb] at h; exact absurd h hb
theorem flw_bad (xs : List Int) : ∀ (i : Nat) (s : St), (flw xs i s).e ≠ 0 → (flw xs i s).s = st0 0 := by
  induction xs with
  | nil => intro i s h; exact absurd rfl h
  | cons c r ih =>
    intro i s h
    unfold flw at h ⊢
    by_cases hb : chk s c = 0
    · rw [decide_eq_true hb] at h ⊢; exact ih _ _ h
    · rw [decide_eq_false hb]; rfl
theorem folE_is {d : Int} {xs : List Int} (h : okA d xs = true) : folE okT flw0 d xs = some (folV (fol d xs)) := by
  simp only [okA, smallL, Bool.and_eq_true, decide_eq_true_eq] at h
  obtain ⟨h0, h1, h2⟩ := h
  unfold folE fol
  cases hd : decide (3 < d) with
  | true => rfl
  | false =>
    simp only [decide_eq_false_iff_not] at hd
    have hC : foC okT 0 0 (Int.ofNat xs.length) 0 xs (st0 d) = true := by
      simp only [foC, okT, Bool.and_eq_true, decide_eq_true_eq]
      exact ⟨⟨trivial, trivial, rfl, trivial, h1⟩, h2, h0, by show d < 4; omega⟩
    rw [foCd, hC]
    simp only [cond_false, cond_true]
    rw [show flw0 xs (st0 d) = flw xs 0 (st0 d) from rfl]
    by_cases he : (flw xs 0 (st0 d)).e = 0
    · rw [decide_eq_true he]
      have h3 := flw_st xs 0 (st0 d) he
      simp only [cond_true, folV]
      rw [he, h3]
    · rw [decide_eq_false he]
      have h3 := flw_bad xs 0 (st0 d) he
      simp only [cond_false, folV]
      rw [h3]
theorem fol_fn (nn : Bool) {d : Int} {xs : List Int} (h : okA d xs = true) : FnOK Tryz.prog 101 [.int .u8 d, .gs 0] [.rs nn 1 (.ints .u8 xs)] (folV (fol d xs)) [.rs nn 1 (.ints .u8 xs)] := by
  obtain ⟨v1, h1, hk, hok⟩ := evalFn_ok (orcE_ok emptyTab_ok plainL_ok) mixed Tryz.func101 (foL_ok nn) ((fol_eval okT flw0 nn d xs).trans (folE_is h))
  cases hk
  exact hok.plain rfl rs_ro
def gFol (F : Int → List Int → FR) : List V → List Blk → Option (Bool × V × List Blk)
  | [.int .u8 d, .gs 0], [.rs _ 1 (.ints .u8 xs)] => some (okA d xs, folV (F d xs), [])
  | _, _ => none
def hTab1 (F : Int → List Int → FR) : HTab := addH 101 (gFol F) emptyH
def dom1 : FuncId → Bool := fun f => Nat.beq f 101
def nrB : FuncId → Option Row := fun _ => some (.ints .u8 [])
theorem hTab1_ok : HTabOk Tryz.prog (hTab1 fol) := by
  refine addH_ok ?_ emptyH_ok
  intro args h c v nb hq hc
  unfold gFol at hq
  split at hq
  · cases hq
    exact ⟨.of Tryz.func101 (by kernel_rfl), by rw [List.append_nil]; exact fol_fn _ hc⟩
  · cases hq
noncomputable abbrev orc1 (T : PTab) (F : Int → List Int → FR) (LL : FuncId → Loops) : Oracle := inl Tryz.prog ftab T LL 100 never dom1 (hOrcP nrB (hTab1 F)) 20
theorem orc1_ok {T : PTab} (hT : PTabOk Tryz.prog T) {LL : FuncId → Loops} (hL : ∀ f, loopsOk Tryz.prog (LL f)) : OracleOk Tryz.prog (orc1 T fol LL) := inl_ok (hOrcP_ok hTab1_ok) ftab_ok hT hL mixed 20
noncomputable abbrev ev1 (T : PTab) (F : Int → List Int → FR) (L : Loops) (f : FuncId) (fn : Func) (nn : Bool) (d : Int) (xs : List Int) : Option V := evalFn Tryz.prog (orc1 T F plainL) L 100 f fn [.int .u8 d, .gs 0] [.rs nn 1 (.ints .u8 xs)] (fun v _ => some v)
theorem fn1 {T : PTab} (hT : PTabOk Tryz.prog T) {L : Loops} (hL : loopsOk Tryz.prog L) {f : FuncId} {fn : Func} (hf : Tryz.prog.funcs[f]? = some fn) {nn : Bool} {d : Int} {xs : List Int} {v : V} (h : ev1 T fol L f fn nn d xs = some v) (hv : plainV v = true) :
    FnOK Tryz.prog f [.int .u8 d, .gs 0] [.rs nn 1 (.ints .u8 xs)] v [.rs nn 1 (.ints .u8 xs)] := by
  obtain ⟨v1, h1, hk, hok⟩ := evalFn_ok (orc1_ok hT plainL_ok) mixed hf hL h
  cases hk
  exact hok.plain hv rs_ro
def tabO (CH : St → Int → Int) (OV : St → Bool) : PTab := addTab 104 (gCheck CH) (addTab 102 (gOver' OV) (addTab 57 gRight (addTab 66 gPartsP emptyTab)))
end Go.Proofs.YtojlmpcbplepcaaGreat

/- Chapter 9: Check, Over, Turn, Contract for every list. -/
namespace Go.Proofs.YtojlmpcbplepcaaGreat
open Go Go.Eng
theorem tabO_ok : PTabOk Tryz.prog (tabO chk ovr) := by
  refine addTab_ok ?_ (addTab_ok ?_ (addTab_ok ?_ (addTab_ok ?_ emptyTab_ok)))
  · intro args c v h _
    unfold gCheck at h
    split at h
    · split at h
      · rename_i s hs; cases h; rw [ofVs_ok hs]; exact check_p s _
      · cases h
    · cases h
  · intro args c v h _
    unfold gOver' at h
    split at h
    · split at h
      · rename_i s hs; cases h; rw [ofVs_ok hs]; exact over_p s
      · cases h
    · cases h
  · intro args c v h _
    unfold gRight at h
    split at h
    · cases h; exact right_p _
    · cases h
  · intro args c v h _
    unfold gPartsP at h
    split at h
    · cases h; rw [← ptV_is]; exact parts_p _
    · cases h
def checkV (F : FR) : V := .tuple [.int .i64 F.at_, .int .i64 F.e]
def overV (OV : St → Bool) (F : FR) : V := bif decide (F.e = 0) then .tuple [.bool (OV F.s), .int .i64 0] else .tuple [.bool false, .int .i64 2]
theorem check18_eval (F : Int → List Int → FR) (CH : St → Int → Int) (OV : St → Bool) (nn : Bool) (d : Int) (xs : List Int) : ev1 (tabO CH OV) F noLoops 92 Tryz.f92 nn d xs = bif okA d xs then some (checkV (F d xs)) else none := by cases nn <;> kernel_rfl
theorem over22_eval (F : Int → List Int → FR) (CH : St → Int → Int) (OV : St → Bool) (nn : Bool) (d : Int) (xs : List Int) : ev1 (tabO CH OV) F noLoops 91 Tryz.f91 nn d xs = bif okA d xs then bif !decide ((F d xs).e = 0) then some (.tuple [.bool false, .int .i64 2]) else some (.tuple [.bool (OV (F d xs).s), .int .i64 0]) else none := by cases nn <;> kernel_rfl
theorem check18_fn (nn : Bool) {d : Int} {xs : List Int} (h : okA d xs = true) : FnOK Tryz.prog 92 [.int .u8 d, .gs 0] [.rs nn 1 (.ints .u8 xs)] (checkV (fol d xs)) [.rs nn 1 (.ints .u8 xs)] :=
  fn1 tabO_ok noLoops_ok Tryz.func92 (by rw [check18_eval, h]; rfl) rfl
theorem over22_fn (nn : Bool) {d : Int} {xs : List Int} (h : okA d xs = true) : FnOK Tryz.prog 91 [.int .u8 d, .gs 0] [.rs nn 1 (.ints .u8 xs)] (overV ovr (fol d xs)) [.rs nn 1 (.ints .u8 xs)] := by
  refine fn1 tabO_ok noLoops_ok Tryz.func91 (by rw [over22_eval, h]; unfold overV; cases decide ((fol d xs).e = 0) <;> rfl) ?_
  unfold overV; cases decide ((fol d xs).e = 0) <;> rfl
end Go.Proofs.YtojlmpcbplepcaaGreat

/- Chapter 9: Contract for every list. (Printed by Ctr2.py.) -/
namespace Go.Proofs.YtojlmpcbplepcaaGreat
open Go Go.Eng
def gS (s : St) : Prop := (0 ≤ s.turn ∧ s.turn < 4) ∧ (0 ≤ s.b.s ∧ s.b.s < 4) ∧ (0 ≤ s.b.d ∧ s.b.d < 5)
theorem gS0 {t : Int} (h : 0 ≤ t ∧ t < 4) : gS (st0 t) := ⟨h, ⟨by show (0 : Int) ≤ 0; omega, by show (0 : Int) < 4; omega⟩, ⟨by show (0 : Int) ≤ 0; omega, by show (0 : Int) < 5; omega⟩⟩
theorem setF_b (s : St) (b : Bd) (k : Nat) : (s.setF b k).b = s.b := by
  unfold St.setF; split <;> rfl
theorem gS_aft {s : St} {c : Int} (h : gS s) (hc : okC c = true) : gS (aft s c) := by
  obtain ⟨h1, h2, h3⟩ := h
  refine ⟨by rw [aft_turn]; exact nx_range _, ?_⟩
  unfold aft
  cases e0 : decide (c = 0) with
  | true => exact ⟨h2, h3⟩
  | false => cases e1 : (decide (c = 1) || decide (c = 2)) with
    | true => exact ⟨h2, h3⟩
    | false =>
      have hb : isBid c = true := by
        simp only [Bool.or_eq_false_iff, decide_eq_false_iff_not] at e0 e1
        simp only [okC, isBid, Bool.and_eq_true, decide_eq_true_eq] at hc ⊢
        omega
      have hd := dn_range hb
      cases (s.fst (kOf s.turn (dnI c))).m with
      | true => exact ⟨h1, hd⟩
      | false =>
        simp only [cond_false]
        rw [setF_b]
        exact ⟨h1, hd⟩
end Go.Proofs.YtojlmpcbplepcaaGreat

/- Chapter 9: Last, Legal: their loops. -/
namespace Go.Proofs.YtojlmpcbplepcaaGreat
open Go Go.Eng
def u8s : TR := .ints .u8
noncomputable def laLp : Code := loopOf 2 Tryz.f65
def laT (nn : Bool) : Tm := ⟨mkS [(0, .gs 0), (2, .int .i64), (3, .bool), (4, .int .i64)] 0 26, [.rs nn 1 u8s], []⟩
def laX (nn : Bool) : Tm := ⟨mkS [(2, .int .i64), (3, .bool)] 0 26, [.rs nn 1 u8s], []⟩
end Go.Proofs.YtojlmpcbplepcaaGreat

/- Chapter 9: Last, Legal: one round. -/
namespace Go.Proofs.YtojlmpcbplepcaaGreat
open Go Go.Eng
theorem la_round (CH : St → Int → Int) (OV : St → Bool) (nn : Bool) (rd : Option Nat) (z i : Int) (b : Bool) (xs : List Int) : roundT Tryz.prog (orcE (tabO CH OV) plainL) noLoops 100 1 rd 65 laLp (laT nn) (laX nn) [.i z, .b b, .i i, .l xs] =
    bif decide (0 ≤ i) then atU xs i (fun c => bif isBid c then some (.ret, [.i i, .b true, .l xs], []) else some (.normal, [.i z, .b b, .i (wr .i64 (i - 1)), .l xs], [])) else some (.exit 0, [.i z, .b b, .l xs], []) := by cases nn <;> kernel_rfl
theorem atU_at {α : Type} {l : List Int} {i : Nat} (h : i < l.length) {K : Int → Option α} : atU l (i : Int) K = K l[i] := by
  unfold atU
  rw [decide_eq_true (show 0 ≤ (i : Int) ∧ (i : Int) < Int.ofNat l.length from ⟨by omega, by show (i : Int) < (l.length : Int); omega⟩), cond_true, show ((i : Int)).toNat = i from rfl, List.getElem?_eq_getElem h]
def lastN (xs : List Int) : Nat → Int × Bool
  | 0 => (0, false)
  | n + 1 => bif isBid (xs.getD n 0) then ((n : Int), true) else lastN xs n
def laFin (xs : List Int) : Nat → XE × List PV
  | 0 => (.exit 0, [.i 0, .b false, .l xs])
  | n + 1 => bif isBid (xs.getD n 0) then (.ret, [.i (n : Int), .b true, .l xs]) else laFin xs n
theorem laFin_is (xs : List Int) : ∀ n, laFin xs n = (if (lastN xs n).2 = true then .ret else .exit 0, [.i (lastN xs n).1, .b (lastN xs n).2, .l xs])
  | 0 => rfl
  | n + 1 => by
    unfold laFin lastN
    cases isBid (xs.getD n 0) with
    | true => rfl
    | false => exact laFin_is xs n
theorem la_loop (nn : Bool) (rd : Option Nat) (xs : List Int) (hl : xs.length ≤ 9223372036854775806) : ∀ n : Nat, n ≤ xs.length →
    SimC Tryz.prog 1 rd (.loop laLp) ((laT nn).at [.i 0, .b false, .i ((n : Int) - 1), .l xs]) (laFin xs n).1 ((laX nn).at (laFin xs n).2) := by
  refine loop_of_rounds (C := orcE (tabO chk ovr) plainL) (L := noLoops) (N := 100) (me := 65) (T := laT nn) (T' := laX nn) (orcE_ok tabO_ok plainL_ok) mixed noLoops_ok (by cases nn <;> kernel_rfl) (by cases nn <;> kernel_rfl) (X := Nat)
    (fun n => [.i 0, .b false, .i ((n : Int) - 1), .l xs]) (fun n => n ≤ xs.length) (fun n => n) (fun n => laFin xs n) ?_
  intro n hn
  have h := la_round chk ovr nn rd 0 ((n : Int) - 1) false xs
  cases n with
  | zero =>
    rw [decide_eq_false (show ¬ (0 : Int) ≤ ((0 : Nat) : Int) - 1 by omega), cond_false] at h
    exact ⟨_, _, _, h, codes0, .inr ⟨by simp, rfl⟩⟩
  | succ n =>
    have hlt : n < xs.length := by omega
    rw [show ((n + 1 : Nat) : Int) - 1 = (n : Int) by omega, decide_eq_true (show (0 : Int) ≤ (n : Int) by omega), cond_true, atU_at hlt, wr64 (by omega) (by omega)] at h
    have hg : xs.getD n 0 = xs[n] := by rw [List.getD_eq_getElem?_getD, List.getElem?_eq_getElem hlt]; rfl
    simp only [laFin, hg]
    cases hb : isBid xs[n] with
    | true =>
      rw [hb, cond_true] at h
      refine ⟨_, _, _, by rw [show ((n + 1 : Nat) : Int) - 1 = (n : Int) by omega]; exact h, codes0, .inr ⟨by simp, rfl⟩⟩
    | false =>
      rw [hb, cond_false] at h
      refine ⟨_, _, _, by rw [show ((n + 1 : Nat) : Int) - 1 = (n : Int) by omega]; exact h, codes0, .inl ⟨rfl, n, rfl, by omega, by omega, rfl⟩⟩
noncomputable def laTree (LN : List Int → Nat → Int × Bool) (nn : Bool) : List PV → Fin
  | [.i z, .b b, .i i, .l xs] => .br (decide (z = 0 ∧ b = false ∧ i = Int.ofNat xs.length - 1 ∧ xs.length ≤ 9223372036854775806)) (.br (LN xs xs.length).2 (.leaf .ret ((laX nn).at [.i (LN xs xs.length).1, .b true, .l xs])) (.leaf (.exit 0) ((laX nn).at [.i (LN xs xs.length).1, .b false, .l xs]))) .no
  | _ => .no
noncomputable def laL (LN : List Int → Nat → Int × Bool) (nn : Bool) : Loops := sums (fun n => match n with | 2 => some (lsumF 1 (laT nn) laLp (laTree LN nn)) | _ => none)
theorem laL_ok (nn : Bool) : loopsOk Tryz.prog (laL lastN nn) := by
  intro n g hg
  simp only [laL, sums] at hg
  split at hg
  · cases hg
    refine lsumF_ok (by cases nn <;> kernel_rfl) (fun rd ps e1 st1 hq => ?_)
    unfold laTree at hq
    split at hq
    · rename_i z b i xs
      simp only [Fin.pick] at hq
      cases hc : decide (z = 0 ∧ b = false ∧ i = Int.ofNat xs.length - 1 ∧ xs.length ≤ 9223372036854775806) with
      | false => rw [hc] at hq; cases hq
      | true =>
        rw [hc, cond_true] at hq
        simp only [decide_eq_true_eq] at hc
        obtain ⟨rfl, rfl, rfl, h1⟩ := hc
        have := la_loop nn rd xs h1 xs.length (Nat.le_refl _)
        rw [laFin_is] at this
        cases hr : (lastN xs xs.length).2 with
        | true => rw [hr] at hq this; cases hq; exact this
        | false => rw [hr] at hq this; cases hq; exact this
    · cases hq
  · cases hg
theorem last_eval (LN : List Int → Nat → Int × Bool) (nn : Bool) (xs : List Int) : evalFn Tryz.prog (orcE emptyTab plainL) (laL LN nn) 100 65 Tryz.f65 [.gs 0] [.rs nn 1 (.ints .u8 xs)] (fun v _ => some v) =
    cond (codesB [(laLp, laLp)]) (bif decide ((0 : Int) = 0 ∧ false = false ∧ wr .i64 (Int.ofNat xs.length - 1) = Int.ofNat xs.length - 1 ∧ xs.length ≤ 9223372036854775806) then bif (LN xs xs.length).2 then some (.tuple [.int .i64 (LN xs xs.length).1, .bool true]) else some (.tuple [.int .i64 0, .bool false]) else none) none := by cases nn <;> kernel_rfl
theorem last_no (xs : List Int) : ∀ n, (lastN xs n).2 = false → (lastN xs n).1 = 0
  | 0, _ => rfl
  | n + 1, h => by
    unfold lastN at h ⊢
    cases hb : isBid (xs.getD n 0) with
    | true => rw [hb] at h; cases h
    | false => rw [hb] at h; exact last_no xs n h
def lastV (xs : List Int) : V := .tuple [.int .i64 (lastN xs xs.length).1, .bool (lastN xs xs.length).2]
theorem laCd : codesB [(laLp, laLp)] = true := by rw [codesB_iff]; intro x hx; simp at hx; rw [hx]
theorem last_fn (nn : Bool) {xs : List Int} (h : smallL xs = true) : FnOK Tryz.prog 65 [.gs 0] [.rs nn 1 (.ints .u8 xs)] (lastV xs) [.rs nn 1 (.ints .u8 xs)] := by
  simp only [smallL, decide_eq_true_eq] at h
  have e : wr .i64 (Int.ofNat xs.length - 1) = Int.ofNat xs.length - 1 := wr64 (by have : (0 : Int) ≤ Int.ofNat xs.length := Int.natCast_nonneg _; omega) (by have : Int.ofNat xs.length = (xs.length : Int) := rfl; omega)
  have hev := last_eval lastN nn xs
  rw [laCd, decide_eq_true (show (0 : Int) = 0 ∧ false = false ∧ wr .i64 (Int.ofNat xs.length - 1) = Int.ofNat xs.length - 1 ∧ xs.length ≤ 9223372036854775806 from ⟨rfl, rfl, e, h⟩), cond_true, cond_true] at hev
  have hv : evalFn Tryz.prog (orcE emptyTab plainL) (laL lastN nn) 100 65 Tryz.f65 [.gs 0] [.rs nn 1 (.ints .u8 xs)] (fun v _ => some v) = some (lastV xs) := by
    rw [hev]; unfold lastV
    cases hb : (lastN xs xs.length).2 with
    | true => rfl
    | false => rw [last_no xs _ hb]; rfl
  obtain ⟨v1, h1, hk, hok⟩ := evalFn_ok (orcE_ok emptyTab_ok plainL_ok) mixed Tryz.func65 (laL_ok nn) hv
  cases hk
  exact hok.plain rfl rs_ro
end Go.Proofs.YtojlmpcbplepcaaGreat
