/- Texts merged: Md3, Kit11, Lw, Lw2. -/
import Derived.Test.YtojlmpcbplepcaaSp2
import Derived.Test.YtojlmpcbplepcaaKit10
import Derived.Test.YtojlmpcbplepcaaLg
import Derived.Test.YtojlmpcbplepcaaCt2
/- Chapter 10: Made's contract; the contracts for the laws. -/
namespace Go.Proofs.Ytojlmpcbplepcaa
open Go Go.Eng
def actsH (nn : Bool) (ws : List Int) : List Blk := [.rs nn 3 (.ints .u8 ws)]
theorem acts_ro {nn : Bool} {ws : List Int} : ∀ (b : Nat) blk, (actsH nn ws)[b]? = some blk → blk.mine = false := by
  intro b blk hb
  match b, hb with
  | 0, hb => cases hb; rfl
  | _ + 1, hb => simp [actsH] at hb
def mdA : Tm := ⟨[some (.tuple [.agg (crsT (.gs 1) (.gs 2)), .bool])], [.rs false 3 (.ints .u8), .grow false 5 1 (.ints .u8), .grow false 3 1 (.ints .i64)], []⟩
def fm (ws : List Int) : Int := foldI minI (Int.ofNat (ws.length / 3)) [40]
def kk (ws : List Int) : Nat := (fm ws).toNat - 0
theorem md_eval (N : NS) (M : NMd) (d : Int) (ws : List Int) : evalFn Try.prog (orcS N emptyTab plainL) (mdL M) 100 10 Try.f10 [.int .u8 d, .gs 0] (actsH false ws) (ansT mdA 1) =
    bif decide ((0 : Int) ≤ 0 ∧ 0 ≤ fm ws ∧ fm ws ≤ Int.ofNat (ws.length / 3)) then cond (codesB [(mdLp, mdLp)]) (bif decide ((0 : Nat) = 0 ∧ Int.ofNat (kk ws) = Int.ofNat (kk ws) ∧ (0 : Int) = 0 ∧ ([] : List Int).length = 0 ∧ ([] : List Int).length = 0 ∧ kk ws ≤ 40 ∧ kk ws ≤ ws.length / 3) && (M.OK ws && (isC0 (crs0 (d.tmod 4)) && M.D4 (d.tmod 4))) then
      some ((M.MC (crs0 (d.tmod 4)) ws (kk ws)).pv [.b true, .l ws, .l (M.ML (crs0 (d.tmod 4)) ws (kk ws)), .l (M.MA (crs0 (d.tmod 4)) ws (kk ws))], []) else none) none else none := by kernel_rfl
theorem mdCd : codesB [(mdLp, mdLp)] = true := by rw [codesB_iff]; intro x hx; simp at hx; rw [hx]
theorem fm_is (ws : List Int) : fm ws = ((min 40 (ws.length / 3) : Nat) : Int) := by
  have h : fm ws = minI (Int.ofNat (ws.length / 3)) 40 := rfl
  rw [h]
  have h2 : Int.ofNat (ws.length / 3) = ((ws.length / 3 : Nat) : Int) := rfl
  rw [h2]
  unfold minI
  simp only [cond_eq_ite, decide_eq_true_eq]
  split <;> omega
theorem made10_fn (nn : Bool) {d : Int} {ws : List Int} (hd : 0 ≤ d) (hw : okW ws = true) : FnOK Try.prog 10 [.int .u8 d, .gs 0] (actsH nn ws) (.tuple [.agg ((mdI d ws).s.vs (.gs 1) (.gs 2)), .bool true]) (actsH nn ws ++ crsNb (mdI d ws).xs (mdI d ws).ac) := by
  have key := md_eval nS nMd d ws
  have hk : kk ws = min 40 (ws.length / 3) := by unfold kk; rw [fm_is]; omega
  have hd4 : 0 ≤ d.tmod 4 ∧ d.tmod 4 ≤ 3 := by rw [Int.tmod_eq_emod_of_nonneg hd]; omega
  rw [mdCd, hk, fm_is, decide_eq_true (show (0 : Int) ≤ 0 ∧ 0 ≤ ((min 40 (ws.length / 3) : Nat) : Int) ∧ ((min 40 (ws.length / 3) : Nat) : Int) ≤ Int.ofNat (ws.length / 3) from ⟨by omega, by omega, by show _ ≤ ((ws.length / 3 : Nat) : Int); omega⟩),
    decide_eq_true (show (0 : Nat) = 0 ∧ Int.ofNat (min 40 (ws.length / 3)) = Int.ofNat (min 40 (ws.length / 3)) ∧ (0 : Int) = 0 ∧ ([] : List Int).length = 0 ∧ ([] : List Int).length = 0 ∧ min 40 (ws.length / 3) ≤ 40 ∧ min 40 (ws.length / 3) ≤ ws.length / 3 from ⟨rfl, rfl, rfl, rfl, rfl, by omega, by omega⟩),
    show nMd.OK ws = true from hw, show isC0 (crs0 (d.tmod 4)) = true from rfl, show nMd.D4 (d.tmod 4) = true from decide_eq_true hd4] at key
  exact FnOK.hard rfl (fn_ans (T := mdA) (orcS_ok emptyTab_ok plainL_ok) mixed Try.func10 mdL_ok (by kernel_rfl) key codesNil rfl)
structure NMk where
  MC : Int → List Int → CD
  ML : Int → List Int → List Int
  MA : Int → List Int → List Int
  OK : Int → List Int → Bool
def nMk : NMk := ⟨fun d ws => (mdI d ws).s, fun d ws => (mdI d ws).xs, fun d ws => (mdI d ws).ac, fun d ws => decide (0 ≤ d) && okW ws⟩
def fMade (M : NMk) : CH
  | [.int .u8 d, .gs 0], [.rs _ 3 (.ints .u8 ws)] => some (M.OK d ws, (.tuple [.agg ((M.MC d ws).vs (.gs 1) (.gs 2)), .bool true], crsNb (M.ML d ws) (M.MA d ws)))
  | _, _ => none
theorem fMade_ok : cOk 10 (fMade nMk) := by
  intro args hp c v nb hq hc
  unfold fMade at hq
  split at hq
  · rename_i d _ ws
    cases hq
    have hc2 : (decide (0 ≤ d) && okW ws) = true := hc
    simp only [Bool.and_eq_true, decide_eq_true_eq] at hc2
    exact ⟨.of Try.func10 (by kernel_rfl), made10_fn _ hc2.1 hc2.2⟩
  · cases hq
def gAwake : List V → Option (Bool × V)
  | [] => some (true, .bool true)
  | _ => none
def tabAw : PTab := addTab 9 gAwake (addTab 35 gRight emptyTab)
theorem tabAw_ok : PTabOk Try.prog tabAw := by
  refine addTab_ok ?_ tabR_ok
  intro args c v h _
  unfold gAwake at h
  split at h
  · cases h; exact awake_p
  · cases h
end Go.Proofs.Ytojlmpcbplepcaa

/- Chapter 10: slices.IndexFunc, slices.ContainsFunc with the law's function; Lead. -/
namespace Go.Proofs.Ytojlmpcbplepcaa
open Go Go.Eng
noncomputable def cfLp : Code := loopOf 2 Try.f53
def cfT : Tm := ⟨mkS [(0, .gs 0), (1, .func 22 []), (4, .int .i64), (7, .int .i64), (8, .int .i64)] 0 19, [.rs false 1 (.ints .u8)], []⟩
def cfX : Tm := ⟨mkS [(4, .int .i64)] 0 19, [.rs false 1 (.ints .u8)], []⟩
theorem cf_round (rd : Option Nat) (z n i : Int) (xs : List Int) : roundT Try.prog (orcE emptyTab plainL) noLoops 100 1 rd 53 cfLp cfT cfX [.i z, .i n, .i i, .l xs] =
    bif decide (i < n) then atU xs i (fun x => bif !decide (x = 0) then some (.ret, [.i i, .l xs], []) else some (.normal, [.i z, .i n, .i (wr .i64 (i + 1)), .l xs], [])) else some (.exit 0, [.i z, .l xs], []) := by kernel_rfl
def npR : List Int → Nat → Int
  | [], _ => -1
  | x :: r, i => bif decide (x = 0) then npR r (i + 1) else (i : Int)
def cfFin (z : Int) (xs : List Int) : List Int → Nat → XE × List PV
  | [], _ => (.exit 0, [.i z, .l xs])
  | x :: r, i => bif decide (x = 0) then cfFin z xs r (i + 1) else (.ret, [.i (i : Int), .l xs])
theorem cf_loop (rd : Option Nat) (z : Int) (xs : List Int) (hs : xs.length ≤ 1000000) : ∀ i : Nat, i ≤ xs.length →
    SimC Try.prog 1 rd (.loop cfLp) (cfT.at [.i z, .i (xs.length : Int), .i (i : Int), .l xs]) (cfFin z xs (xs.drop i) i).1 (cfX.at (cfFin z xs (xs.drop i) i).2) := by
  refine loop_of_rounds (C := orcE emptyTab plainL) (L := noLoops) (N := 100) (me := 53) (T := cfT) (T' := cfX) (orcE_ok emptyTab_ok plainL_ok) mixed noLoops_ok (by kernel_rfl) (by kernel_rfl) (X := Nat)
    (fun i => [.i z, .i (xs.length : Int), .i (i : Int), .l xs]) (fun i => i ≤ xs.length) (fun i => xs.length - i) (fun i => cfFin z xs (xs.drop i) i) ?_
  intro i hi
  have h := cf_round rd z (xs.length : Int) (i : Int) xs
  rcases Nat.lt_or_ge i xs.length with hlt | hge
  · rw [decide_eq_true (show (i : Int) < (xs.length : Int) by omega), cond_true, atU_at hlt, wr64 (by omega) (by omega)] at h
    rw [List.drop_eq_getElem_cons hlt]
    simp only [cfFin]
    by_cases hb : xs[i] = 0
    · rw [decide_eq_true hb] at h ⊢
      exact ⟨_, _, _, h, codes0, .inl ⟨rfl, i + 1, rfl, by omega, by omega, rfl⟩⟩
    · rw [decide_eq_false hb] at h ⊢
      exact ⟨_, _, _, h, codes0, .inr ⟨by simp, rfl⟩⟩
  · rw [decide_eq_false (show ¬ (i : Int) < (xs.length : Int) by omega), cond_false] at h
    refine ⟨_, _, _, h, codes0, .inr ⟨by simp, ?_⟩⟩
    rw [List.drop_eq_nil_of_le (by omega)]; rfl
theorem cfFin_is (z : Int) (xs : List Int) : ∀ (r : List Int) (i : Nat), (npR r i = -1 ∧ cfFin z xs r i = (.exit 0, [.i z, .l xs])) ∨ (0 ≤ npR r i ∧ cfFin z xs r i = (.ret, [.i (npR r i), .l xs]))
  | [], _ => .inl ⟨rfl, rfl⟩
  | x :: r, i => by
    simp only [npR, cfFin]
    cases decide (x = 0) with
    | true => exact cfFin_is z xs r (i + 1)
    | false => exact .inr ⟨by show (0 : Int) ≤ (i : Int); omega, rfl⟩
theorem npR_all : ∀ (r : List Int) (i : Nat), npR r i = -1 ↔ ∀ x ∈ r, x = 0
  | [], _ => by simp [npR]
  | x :: r, i => by
    simp only [npR]
    by_cases h : x = 0
    · rw [decide_eq_true h, cond_true, npR_all r (i + 1)]; simp [h]
    · rw [decide_eq_false h]
      constructor
      · intro e; have e : (i : Int) = -1 := e; omega
      · intro e; exact absurd (e x (by simp)) h
noncomputable def cfTree : List PV → Fin
  | [.i z, .i n, .i i, .l xs] => .br (decide (n = Int.ofNat xs.length ∧ i = 0 ∧ xs.length ≤ 1000000)) (.br (decide (0 ≤ npR xs 0)) (.leaf .ret (cfX.at [.i (npR xs 0), .l xs])) (.leaf (.exit 0) (cfX.at [.i z, .l xs]))) .no
  | _ => .no
noncomputable def cfL : Loops := sums (fun n => match n with | 2 => some (lsumF 1 cfT cfLp cfTree) | _ => none)
theorem cfL_ok : loopsOk Try.prog cfL := by
  intro n g hg
  simp only [cfL, sums] at hg
  split at hg
  · cases hg
    refine lsumF_ok (by kernel_rfl) (fun rd ps e1 st1 hq => ?_)
    unfold cfTree at hq
    split at hq
    · rename_i z n i xs
      simp only [Fin.pick] at hq
      cases hc : decide (n = Int.ofNat xs.length ∧ i = 0 ∧ xs.length ≤ 1000000) with
      | false => rw [hc] at hq; cases hq
      | true =>
        rw [hc, cond_true] at hq
        rw [decide_eq_true_eq] at hc
        obtain ⟨rfl, rfl, h2⟩ := hc
        have := cf_loop rd z xs h2 0 (Nat.zero_le _)
        rw [show xs.drop 0 = xs from rfl] at this
        rcases cfFin_is z xs xs 0 with ⟨q1, q2⟩ | ⟨q1, q2⟩
        · rw [q2] at this; rw [q1, decide_eq_false (by omega)] at hq; cases hq; exact this
        · rw [q2] at this; rw [decide_eq_true q1] at hq; cases hq; exact this
    · cases hq
  · cases hg
theorem idxf_eval (xs : List Int) : evalFn Try.prog (orcE emptyTab plainL) cfL 100 53 Try.f53 [.gs 0, .func 22 []] [.rs false 1 (.ints .u8 xs)] (fun v _ => some v) =
    cond (codesB [(cfLp, cfLp)]) (bif decide (Int.ofNat xs.length = Int.ofNat xs.length ∧ (0 : Int) = 0 ∧ xs.length ≤ 1000000) then bif decide (0 ≤ npR xs 0) then some (.int .i64 (npR xs 0)) else some (.int .i64 (-1)) else none) none := by kernel_rfl
theorem idxf_fn (nn : Bool) {xs : List Int} (hs : xs.length ≤ 1000000) : FnOK Try.prog 53 [.gs 0, .func 22 []] [.rs nn 1 (.ints .u8 xs)] (.int .i64 (npR xs 0)) ([.rs nn 1 (.ints .u8 xs)] ++ []) := by
  have key := idxf_eval xs
  rw [lpCd10, decide_eq_true ⟨rfl, rfl, hs⟩] at key
  have e : (cond true (bif true then bif decide (0 ≤ npR xs 0) then some (V.int .i64 (npR xs 0)) else some (.int .i64 (-1)) else none) none) = some (V.int .i64 (npR xs 0)) := by
    rcases cfFin_is 0 xs xs 0 with ⟨q1, _⟩ | ⟨q1, _⟩
    · rw [q1]; rfl
    · rw [decide_eq_true q1]; rfl
  rw [e] at key
  obtain ⟨v1, h1, hk, hok⟩ := evalFn_ok (orcE_ok emptyTab_ok plainL_ok) mixed Try.func53 cfL_ok key
  cases hk
  exact FnOK.hard rfl (by rw [List.append_nil]; exact hok.plain rfl rs_ro)
def hIdxf : CH
  | [.gs 0, .func 22 []], [.rs _ 1 (.ints .u8 xs)] => some (decide (xs.length ≤ 1000000), .int .i64 (npR xs 0), [])
  | _, _ => none
theorem hIdxf_ok : HTabOk Try.prog (addH 53 hIdxf emptyH) := by
  refine addH_ok ?_ emptyH_ok
  intro args hp c v nb hq hc
  unfold hIdxf at hq
  split at hq
  · cases hq; exact ⟨.of Try.func53 (by kernel_rfl), idxf_fn _ (of_decide_eq_true hc)⟩
  · cases hq
noncomputable abbrev orcCf : Oracle := inl Try.prog ftab emptyTab plainL 100 never (fun f => Nat.beq f 53) (hOrcX nr8 (addH 53 hIdxf emptyH)) 20
theorem orcCf_ok : OracleOk Try.prog orcCf := inl_ok (hOrcX_ok hIdxf_ok) ftab_ok emptyTab_ok plainL_ok mixed 20
theorem conf_eval (xs : List Int) : evalFn Try.prog orcCf noLoops 100 21 Try.f21 [.gs 0, .func 22 []] [.rs false 1 (.ints .u8 xs)] (fun v _ => some v) = bif decide (xs.length ≤ 1000000) then some (.bool (decide (0 ≤ npR xs 0))) else none := by kernel_rfl
def anyN (xs : List Int) : Bool := decide (0 ≤ npR xs 0)
theorem anyN_false {xs : List Int} (h : ∀ x ∈ xs, x = 0) : anyN xs = false := by
  unfold anyN
  rw [(npR_all xs 0).2 h]; rfl
theorem conf_fn (nn : Bool) {xs : List Int} (hs : xs.length ≤ 1000000) : FnOK Try.prog 21 [.gs 0, .func 22 []] [.rs nn 1 (.ints .u8 xs)] (.bool (anyN xs)) ([.rs nn 1 (.ints .u8 xs)] ++ []) := by
  have key := conf_eval xs
  rw [decide_eq_true hs] at key
  obtain ⟨v1, h1, hk, hok⟩ := evalFn_ok orcCf_ok mixed Try.func21 noLoops_ok key
  cases hk
  exact FnOK.hard rfl (by rw [List.append_nil]; exact hok.plain rfl rs_ro)
end Go.Proofs.Ytojlmpcbplepcaa

/- Chapter 10: all contracts, for the laws. -/
namespace Go.Proofs.Ytojlmpcbplepcaa
open Go Go.Eng
structure NL where
  F : NF
  M : NMk
  S : NS
  E : NE
  LV : CD → List Int → List Int → Int
  LE : CD → List Int → List Int → Int
  EQ : List Int → List Int → Bool
  ANY : List Int → Bool
  KL : List Int → Bool
def klB (xs : List Int) : Bool := decide (xs.length ≤ 1000000)
noncomputable def nL : NL := ⟨nF, nMk, nS, nE, leadV, leadE, eqI, anyN, klB⟩
def lLead (N : NL) : CH
  | [.agg l], [.rs _ 1 (.ints .u8 xs), .rs _ 1 (.ints .i64 ac)] => match ofCrs l with
    | some (s, .gs 0, .gs 1) => some (N.F.OK xs, .tuple [.int .u8 (N.LV s xs ac), .int .i64 (N.LE s xs ac)], [])
    | _ => none
  | _, _ => none
theorem lLead_ok : cOk 26 (lLead nL) := by
  intro args hp c v nb hq hc
  unfold lLead at hq
  split at hq
  · split at hq
    · rename_i s hs
      cases hq
      rw [ofCrs_ok hs, List.append_nil]
      exact ⟨.of Try.func26 (by kernel_rfl), lead26_fn _ _ hc⟩
    · cases hq
  · cases hq
def lEqU (N : NL) : CH
  | [.gs 0, .gs 1], [.rs _ 1 (.ints .u8 xs), .rs _ 1 (.ints .u8 ys)] => some (N.KL xs, .bool (N.EQ xs ys), [])
  | _, _ => none
def lEqI (N : NL) : CH
  | [.gs 0, .gs 1], [.rs _ 1 (.ints .i64 xs), .rs _ 1 (.ints .i64 ys)] => some (N.KL xs, .bool (N.EQ xs ys), [])
  | _, _ => none
theorem lEq24_ok : cOk 24 (lEqU nL) := by
  intro args hp c v nb hq hc
  unfold lEqU at hq
  split at hq
  · cases hq; exact ⟨.of Try.func24 (by kernel_rfl), sb_fn _ _ (of_decide_eq_true hc)⟩
  · cases hq
theorem lEq19_ok : cOk 19 (lEqU nL) := by
  intro args hp c v nb hq hc
  unfold lEqU at hq
  split at hq
  · cases hq; exact ⟨.of Try.func19 (by kernel_rfl), se_fn _ _ (of_decide_eq_true hc)⟩
  · cases hq
theorem lEq25_ok : cOk 25 (lEqI nL) := by
  intro args hp c v nb hq hc
  unfold lEqI at hq
  split at hq
  · cases hq; exact ⟨.of Try.func25 (by kernel_rfl), si_fn _ _ (of_decide_eq_true hc)⟩
  · cases hq
def lAny (N : NL) : CH
  | [.gs 0, .func 22 []], [.rs _ 1 (.ints .u8 xs)] => some (N.KL xs, .bool (N.ANY xs), [])
  | _, _ => none
theorem lAny_ok : cOk 21 (lAny nL) := by
  intro args hp c v nb hq hc
  unfold lAny at hq
  split at hq
  · cases hq; exact ⟨.of Try.func21 (by kernel_rfl), conf_fn _ (of_decide_eq_true hc)⟩
  · cases hq
def hTabW (N : NL) : HTab := addH 10 (fMade N.M) (addH 20 (fStep N.S) (addH 23 (dCon N.E) (addH 26 (lLead N) (addH 24 (lEqU N) (addH 19 (lEqU N) (addH 25 (lEqI N) (addH 21 (lAny N) (hTabF N.F emptyH))))))))
theorem hTabW_ok : HTabOk Try.prog (hTabW nL) := addH_ok fMade_ok (addH_ok fStep_ok (addH_ok dCon_ok (addH_ok lLead_ok (addH_ok lEq24_ok (addH_ok lEq19_ok (addH_ok lEq25_ok (addH_ok lAny_ok (hTabF_ok emptyH_ok))))))))
def nrW : FuncId → Nat → Option Row := fun f n => bif Nat.beq f 25 then some (.ints .i64 []) else bif Nat.beq f 24 || Nat.beq f 19 then some (.ints .u8 []) else nrC f n
def domW : FuncId → Bool := fun f => domF f || (Nat.beq f 10 || (Nat.beq f 19 || (Nat.beq f 20 || (Nat.beq f 21 || (Nat.beq f 23 || (Nat.beq f 24 || (Nat.beq f 25 || Nat.beq f 26)))))))
noncomputable def saLp : Code := loopOf 5 Try.f4
def saBk : List TB := [.rs false 3 (.ints .u8), .own 29 (.vs (crsT (.gs 2) (.gs 3))), .grow false 5 1 (.ints .u8), .grow false 3 1 (.ints .i64)]
def saT : Tm := ⟨mkS [(4, .bool), (5, .ptr 1 0), (30, .view 0 3), (31, .int .i64), (32, .int .i64)] 0 214, saBk, []⟩
def saX : Tm := ⟨mkS [(4, .bool), (5, .ptr 1 0)] 0 214, saBk, []⟩
end Go.Proofs.Ytojlmpcbplepcaa

/- Chapter 10: IrregularStays: its rounds. -/
namespace Go.Proofs.Ytojlmpcbplepcaa
open Go Go.Eng
abbrev ANx := Option (XE × List PV × List (Code × Code))
abbrev saIn (r : Bool) (k : Nat) (n i : Int) (ws : List Int) (s : CD) (xs ac : List Int) : List PV := .b r :: .n 0 :: .n k :: .i n :: .i i :: .l ws :: s.pv [.l xs, .l ac]
abbrev saOut (r : Bool) (ws : List Int) (s : CD) (xs ac : List Int) : List PV := .b r :: .l ws :: s.pv [.l xs, .l ac]
noncomputable def saF (ws : List Int) (s : CD) (xs ac : List Int) : ANx := some (.ret, saOut false ws s xs ac, [])
noncomputable def saY (N : NL) (r : Bool) (k : Nat) (n i : Int) (ws : List Int) (s : CD) (xs ac : List Int) (S : CD) (L A : List Int) (n0 m : Int) (k2 : Nat) : ANx :=
  bif decide (m < n0) then saF ws s xs ac else bif decide (wr .i64 (n0 + 4) < m) then saF ws s xs ac else bif decide ((0 : Int) ≤ 0 ∧ 0 ≤ n0 ∧ n0 ≤ m) then bif decide (0 + (n0.toNat - 0) ≤ L.length) then
  bif N.KL ((L.drop 0).take (n0.toNat - 0)) then bif !N.EQ ((L.drop 0).take (n0.toNat - 0)) xs then saF ws s xs ac else bif !decide (S.d = s.d) then saF ws s xs ac else
  bif decide (Int.ofNat A.length < Int.ofNat ac.length) then saF ws s xs ac else bif decide (wr .i64 (Int.ofNat ac.length + 1) < Int.ofNat A.length) then saF ws s xs ac else
  bif decide ((0 : Int) ≤ n0 ∧ n0 ≤ m ∧ m ≤ m) then bif decide (1 < Int.ofNat k2) then bif decide (n0.toNat + k2 ≤ L.length) then bif decide ((0 : Int) ≤ 0 ∧ 0 ≤ wr .i64 (Int.ofNat k2 - 1) ∧ wr .i64 (Int.ofNat k2 - 1) ≤ Int.ofNat k2) then
  bif decide (n0.toNat + (wr .i64 (Int.ofNat k2 - 1)).toNat ≤ L.length) then bif N.KL ((L.drop n0.toNat).take (wr .i64 (Int.ofNat k2 - 1)).toNat) then bif N.ANY ((L.drop n0.toNat).take (wr .i64 (Int.ofNat k2 - 1)).toNat) then saF ws s xs ac else
    some (.normal, saIn r k n (wr .i64 (i + 1)) ws S L A, []) else none else none else none else none else
    some (.normal, saIn r k n (wr .i64 (i + 1)) ws S L A, []) else none else none else none else none
noncomputable def saX2 (N : NL) (r : Bool) (k : Nat) (n i : Int) (ws : List Int) (s : CD) (xs ac : List Int) (x b w : Int) : ANx :=
  bif N.S.SO s xs ac && (N.S.BY x && N.S.BY b) then saY N r k n i ws s xs ac (N.S.SC s xs ac x b w) (N.S.SL s xs ac x b w) (N.S.SA s xs ac x b w) (Int.ofNat xs.length) (Int.ofNat (N.S.SL s xs ac x b w).length) ((Int.ofNat (N.S.SL s xs ac x b w).length).toNat - (Int.ofNat xs.length).toNat) else none
noncomputable def saP (N : NL) (ws : List Int) (s : CD) (xs ac : List Int) (p : Int) (X : ANx) : ANx :=
  bif !decide (p = 0) then bif N.KL (N.F.LV s xs ac) then bif !N.EQ (N.F.LV s xs ac) [0] then saF ws s xs ac else X else none else X
structure NQ where
  A16 : CD → List Int → List Int → Bool
  A17 : CD → List Int → List Int → Bool
  A14 : CD → List Int → List Int → Bool
  A18 : CD → List Int → List Int → Bool
def kOver (Q : NQ) (b : Bool) : CH
  | [.agg l], [.rs _ 1 (.ints .u8 xs), .rs _ 1 (.ints .i64 ac)] => match ofCrs l with
    | some (s, .gs 0, .gs 1) => some (Q.A16 s xs ac, .tuple [.bool b, .int .i64 0], [])
    | _ => none
  | _, _ => none
def kRight (Q : NQ) : CH
  | [.agg l], [.rs _ 1 (.ints .u8 xs), .rs _ 1 (.ints .i64 ac)] => match ofCrs l with
    | some (s, .gs 0, .gs 1) => some (Q.A17 s xs ac, .bool true, [])
    | _ => none
  | _, _ => none
def kTurn (Q : NQ) (t e : Int) : CH
  | [.agg l], [.rs _ 1 (.ints .u8 xs), .rs _ 1 (.ints .i64 ac)] => match ofCrs l with
    | some (s, .gs 0, .gs 1) => some (Q.A14 s xs ac, .tuple [.int .u8 t, .int .i64 e], [])
    | _ => none
  | _, _ => none
def kLegal (N : NF) (Q : NQ) (e : Int) : CH
  | [.agg l], [.rs _ 1 (.ints .u8 xs), .rs _ 1 (.ints .i64 ac)] => match ofCrs l with
    | some (s, .gs 0, .gs 1) => some (Q.A18 s xs ac, .tuple [.gs 2, .int .i64 e], [.grow false 5 1 (.ints .u8 (N.LV s xs ac))])
    | _ => none
  | _, _ => none
def nQ (b : Bool) (t e : Int) : NQ := ⟨fun s xs ac => okL xs && (decide (ovrB s xs ac = b) && decide (ovrE s xs ac = 0)), fun s xs ac => okL xs && rgtI s xs ac, fun s xs ac => okL xs && (decide (tuV s xs ac = t) && decide (opI s xs ac = e)), fun s xs ac => (okL xs && dkB s) && decide (opI s xs ac = e)⟩
theorem kOver_ok (b : Bool) (t e : Int) : cOk 16 (kOver (nQ b t e) b) := by
  intro args hp c v nb hq hc
  unfold kOver at hq
  split at hq
  · split at hq
    · rename_i s hs
      cases hq
      rw [ofCrs_ok hs, List.append_nil]
      have hc2 : (okL _ && (decide (ovrB s _ _ = b) && decide (ovrE s _ _ = 0))) = true := hc
      simp only [Bool.and_eq_true, decide_eq_true_eq] at hc2
      obtain ⟨h1, h2, h3⟩ := hc2
      rw [← h3, ← h2]
      exact ⟨.of Try.func16 (by kernel_rfl), over16_fn _ _ h1⟩
    · cases hq
  · cases hq
theorem kRight_ok (b : Bool) (t e : Int) : cOk 17 (kRight (nQ b t e)) := by
  intro args hp c v nb hq hc
  unfold kRight at hq
  split at hq
  · split at hq
    · rename_i s hs
      cases hq
      rw [ofCrs_ok hs, List.append_nil]
      have hc2 : (okL _ && rgtI s _ _) = true := hc
      simp only [Bool.and_eq_true] at hc2
      refine ⟨.of Try.func17 (by kernel_rfl), ?_⟩
      rw [← hc2.2]
      exact right17_fn _ _ hc2.1
    · cases hq
  · cases hq
theorem kTurn_ok (b : Bool) (t e : Int) : cOk 14 (kTurn (nQ b t e) t e) := by
  intro args hp c v nb hq hc
  unfold kTurn at hq
  split at hq
  · split at hq
    · rename_i s hs
      cases hq
      rw [ofCrs_ok hs, List.append_nil]
      have hc2 : (okL _ && (decide (tuV s _ _ = t) && decide (opI s _ _ = e))) = true := hc
      simp only [Bool.and_eq_true, decide_eq_true_eq] at hc2
      obtain ⟨h1, h2, h3⟩ := hc2
      rw [← h3, ← h2]
      exact ⟨.of Try.func14 (by kernel_rfl), turn14_fn _ _ h1⟩
    · cases hq
  · cases hq
theorem kLegal_ok (b : Bool) (t e : Int) : cOk 18 (kLegal nF (nQ b t e) e) := by
  intro args hp c v nb hq hc
  unfold kLegal at hq
  split at hq
  · split at hq
    · rename_i s hs
      cases hq
      have hc2 : ((okL _ && dkB s) && decide (opI s _ _ = e)) = true := hc
      simp only [Bool.and_eq_true, decide_eq_true_eq] at hc2
      rw [ofCrs_ok hs]
      rw [← hc2.2]
      exact ⟨.of Try.func18 (by kernel_rfl), legal18_fn _ _ hc2.1.1 hc2.1.2⟩
    · cases hq
  · cases hq
def hTabQ (N : NL) (Q : NQ) (b : Bool) (t e : Int) : HTab := addH 16 (kOver Q b) (addH 17 (kRight Q) (addH 14 (kTurn Q t e) (addH 18 (kLegal N.F Q e) (hTabW N))))
theorem hTabQ_ok (b : Bool) (t e : Int) : HTabOk Try.prog (hTabQ nL (nQ b t e) b t e) := addH_ok (kOver_ok b t e) (addH_ok (kRight_ok b t e) (addH_ok (kTurn_ok b t e) (addH_ok (kLegal_ok b t e) hTabW_ok)))
noncomputable abbrev orcQ (N : NL) (Q : NQ) (b : Bool) (t e : Int) : Oracle := inl Try.prog ftab tabAw plainL 100 never domW (hOrcX nrW (hTabQ N Q b t e)) 20
theorem orcQ_ok (b : Bool) (t e : Int) : OracleOk Try.prog (orcQ nL (nQ b t e) b t e) := inl_ok (hOrcX_ok (hTabQ_ok b t e)) ftab_ok tabAw_ok plainL_ok mixed 20
noncomputable def saE (Q : NQ) (s : CD) (xs ac : List Int) (X : ANx) : ANx := bif Q.A16 s xs ac then bif Q.A17 s xs ac then bif Q.A18 s xs ac then bif Q.A14 s xs ac then X else none else none else none else none
end Go.Proofs.Ytojlmpcbplepcaa
