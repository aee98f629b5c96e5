/- Texts merged: Lw, Pl. -/
import Derived.Test.YtojlmpcbplepcaaCt3
import Derived.Test.YtojlmpcbplepcaaMd3
import Derived.Test.YtojlmpcbplepcaaKit11
import Derived.Test.YtojlmpcbplepcaaSp2
import Derived.Test.YtojlmpcbplepcaaHist
/- Chapter 10: all contracts, for the laws. -/
namespace Go.Proofs.Ytojlmpcbplepcaa
open Go Go.Eng
structure NL where
  F : NF
  M : NMk
  S : NS
  E : NE
  LV : CD → List Int → List Int → Int
  LE : CD → List Int → List Int → Int
  EQ : List Int → List Int → Bool
  ANY : List Int → Bool
  KL : List Int → Bool
def klB (xs : List Int) : Bool := decide (xs.length ≤ 1000000)
noncomputable def nL : NL := ⟨nF, nMk, nS, nE, leadV, leadE, eqI, anyN, klB⟩
def lLead (N : NL) : CH
  | [.agg l], [.rs _ 1 (.ints .u8 xs), .rs _ 1 (.ints .i64 ac)] => match ofCrs l with
    | some (s, .gs 0, .gs 1) => some (N.F.OK xs, .tuple [.int .u8 (N.LV s xs ac), .int .i64 (N.LE s xs ac)], [])
    | _ => none
  | _, _ => none
theorem lLead_ok : cOk 26 (lLead nL) := by
  intro args hp c v nb hq hc
  unfold lLead at hq
  split at hq
  · split at hq
    · rename_i s hs
      cases hq
      rw [ofCrs_ok hs, List.append_nil]
      exact ⟨.of Try.func26 (by kernel_rfl), lead26_fn _ _ hc⟩
    · cases hq
  · cases hq
def lEqU (N : NL) : CH
  | [.gs 0, .gs 1], [.rs _ 1 (.ints .u8 xs), .rs _ 1 (.ints .u8 ys)] => some (N.KL xs, .bool (N.EQ xs ys), [])
  | _, _ => none
def lEqI (N : NL) : CH
  | [.gs 0, .gs 1], [.rs _ 1 (.ints .i64 xs), .rs _ 1 (.ints .i64 ys)] => some (N.KL xs, .bool (N.EQ xs ys), [])
  | _, _ => none
theorem lEq24_ok : cOk 24 (lEqU nL) := by
  intro args hp c v nb hq hc
  unfold lEqU at hq
  split at hq
  · cases hq; exact ⟨.of Try.func24 (by kernel_rfl), sb_fn _ _ (of_decide_eq_true hc)⟩
  · cases hq
theorem lEq19_ok : cOk 19 (lEqU nL) := by
  intro args hp c v nb hq hc
  unfold lEqU at hq
  split at hq
  · cases hq; exact ⟨.of Try.func19 (by kernel_rfl), se_fn _ _ (of_decide_eq_true hc)⟩
  · cases hq
theorem lEq25_ok : cOk 25 (lEqI nL) := by
  intro args hp c v nb hq hc
  unfold lEqI at hq
  split at hq
  · cases hq; exact ⟨.of Try.func25 (by kernel_rfl), si_fn _ _ (of_decide_eq_true hc)⟩
  · cases hq
def lAny (N : NL) : CH
  | [.gs 0, .func 22 []], [.rs _ 1 (.ints .u8 xs)] => some (N.KL xs, .bool (N.ANY xs), [])
  | _, _ => none
theorem lAny_ok : cOk 21 (lAny nL) := by
  intro args hp c v nb hq hc
  unfold lAny at hq
  split at hq
  · cases hq; exact ⟨.of Try.func21 (by kernel_rfl), conf_fn _ (of_decide_eq_true hc)⟩
  · cases hq
def hTabW (N : NL) : HTab := addH 10 (fMade N.M) (addH 20 (fStep N.S) (addH 23 (dCon N.E) (addH 26 (lLead N) (addH 24 (lEqU N) (addH 19 (lEqU N) (addH 25 (lEqI N) (addH 21 (lAny N) (hTabF N.F emptyH))))))))
theorem hTabW_ok : HTabOk Try.prog (hTabW nL) := addH_ok fMade_ok (addH_ok fStep_ok (addH_ok dCon_ok (addH_ok lLead_ok (addH_ok lEq24_ok (addH_ok lEq19_ok (addH_ok lEq25_ok (addH_ok lAny_ok (hTabF_ok emptyH_ok))))))))
def nrW : FuncId → Nat → Option Row := fun f n => bif Nat.beq f 25 then some (.ints .i64 []) else bif Nat.beq f 24 || Nat.beq f 19 then some (.ints .u8 []) else nrC f n
def domW : FuncId → Bool := fun f => domF f || (Nat.beq f 10 || (Nat.beq f 19 || (Nat.beq f 20 || (Nat.beq f 21 || (Nat.beq f 23 || (Nat.beq f 24 || (Nat.beq f 25 || Nat.beq f 26)))))))
noncomputable abbrev orcW (N : NL) (T : PTab) (LL : FuncId → Loops) : Oracle := inl Try.prog ftab T LL 100 never domW (hOrcX nrW (hTabW N)) 20
theorem orcW_ok {T : PTab} (hT : PTabOk Try.prog T) {LL : FuncId → Loops} (hL : ∀ f, loopsOk Try.prog (LL f)) : OracleOk Try.prog (orcW nL T LL) := inl_ok (hOrcX_ok hTabW_ok) ftab_ok hT hL mixed 20
/-! ### IrregularStays: its loops -/
noncomputable def saLp : Code := loopOf 5 Try.f4
def saBk : List TB := [.rs false 3 (.ints .u8), .own 29 (.vs (crsT (.gs 2) (.gs 3))), .grow false 5 1 (.ints .u8), .grow false 3 1 (.ints .i64)]
def saT : Tm := ⟨mkS [(4, .bool), (5, .ptr 1 0), (30, .view 0 3), (31, .int .i64), (32, .int .i64)] 0 214, saBk, []⟩
def saX : Tm := ⟨mkS [(4, .bool), (5, .ptr 1 0)] 0 214, saBk, []⟩
noncomputable def sbLp4 : Code := loopOf 23 Try.f4
def sbT4 : Tm := ⟨mkS [(4, .bool), (5, .ptr 1 0), (176, .int .i64)] 0 214, saBk, []⟩
def sbX4 : Tm := ⟨mkS [(4, .bool)] 0 214, [.rs false 3 (.ints .u8)], []⟩
end Go.Proofs.Ytojlmpcbplepcaa

/- Chapter 10: a course without irregular calls is an auction: the states agree. -/
namespace Go.Proofs.Ytojlmpcbplepcaa
open Go Go.Eng
/-- Two states that tell the same of what may come. -/
structure Sm (S T : St) : Prop where
  b : S.b = T.b
  turn : S.turn = T.turn
  risk : S.risk = T.risk
  passes : S.passes = T.passes
theorem Sm.ovr {S T : St} (h : Sm S T) : ovr S = ovr T := by unfold Go.Proofs.Ytojlmpcbplepcaa.ovr; rw [h.b, h.passes]
theorem Sm.chk {S T : St} (h : Sm S T) (c : Int) : chk S c = chk T c := by
  have e : same2 S = same2 T := by unfold same2; rw [h.b, h.turn]
  unfold Go.Proofs.Ytojlmpcbplepcaa.chk
  rw [h.ovr, h.b, h.risk, e]
theorem Sm.low {S T : St} (h : Sm S T) {c : Int} (hc : c = 0 ∨ (c = 1 ∨ c = 2)) : Sm (aft S c) (aft T c) := by
  rcases hc with rfl | hc
  · rw [aft_pass, aft_pass]
    refine ⟨h.b, ?_, h.risk, ?_⟩
    · show nx S.turn = nx T.turn
      rw [h.turn]
    · show wr .i64 (S.passes + 1) = wr .i64 (T.passes + 1)
      rw [h.passes]
  · have e1 := aft_turn S c
    have e2 := aft_turn T c
    rw [aft_dbl hc] at e1 ⊢
    rw [aft_dbl hc] at e2 ⊢
    exact ⟨h.b, by rw [e1, e2, h.turn], rfl, rfl⟩
theorem Sm.bid {S T : St} (ht : S.turn = T.turn) {c : Int} (hc : isBid c = true) : Sm (aft S c) (aft T c) := by
  have h1 := aft_bid (s := S) hc
  have h2 := aft_bid (s := T) hc
  refine ⟨?_, ?_, ?_, ?_⟩
  · rw [h1.b, h2.b]; unfold newB; rw [ht]
  · rw [h1.turn, h2.turn, ht]
  · rw [h1.risk, h2.risk]
  · rw [h1.passes, h2.passes]
/-- The whole auction and what counts from the last bid on. -/
theorem pl_sim {d : Int} (hd : 0 ≤ d ∧ d ≤ 3) {xs ac : List Int} (h : GC d xs ac) : ac = [] → xs.length ≤ 100000 → (fol d xs).e = 0 ∧ Sm (fol d xs).s (Tt d xs) := by
  induction h with
  | nil =>
    intro _ _
    have e : rcD d [] = d := by
      have : rcD d [] = mkI d ((0 : Nat) : Int) := rfl
      rw [this, mk_is hd (by omega)]; omega
    have ef : fol d [] = ⟨st0 d, st0 d, -1, 0⟩ := fol_nil hd.2
    have et : Tt d [] = (fol d []).s := by unfold Tt; rw [e]; rfl
    rw [et]
    exact ⟨by rw [ef], ⟨rfl, rfl, rfl, rfl⟩⟩
  | @free xs ac c h1 h2 h3 h4 h5 ih =>
    intro ha hl
    rw [List.length_append, List.length_singleton] at hl
    obtain ⟨e, sm⟩ := ih ha (by omega)
    have g := h1.gi hd (by omega)
    have hc37 := (g.free h4).2
    obtain ⟨g2, gt⟩ := g.snoc (by omega) (c := c) ⟨h5, hc37⟩ h2 (.inr h4)
    have hk : chk (fol d xs).s c = 0 := by
      rw [sm.chk]
      rw [g.fr] at h4
      exact of_decide_eq_true h4
    have ef : fol d (xs ++ [c]) = ⟨aft (fol d xs).s c, aft (fol d xs).s c, -1, 0⟩ := by
      rw [fol_snoc e]
      show (bif decide (chk (fol d xs).s c = 0) then _ else _) = _
      rw [hk]; rfl
    rw [ef]
    refine ⟨rfl, ?_⟩
    show Sm (aft (fol d xs).s c) (Tt d (xs ++ [c]))
    rw [gt]
    cases hb : isBid c with
    | true =>
      rw [cond_true]
      refine Sm.bid ?_ hb
      rw [sm.turn, g.t]; rfl
    | false =>
      rw [cond_false]
      have hn3 : c = 0 ∨ (c = 1 ∨ c = 2) := by
        have : ¬ 3 ≤ c := fun h3 => by
          have : isBid c = true := by simp only [isBid, Bool.and_eq_true, decide_eq_true_eq]; exact ⟨h3, hc37⟩
          rw [hb] at this; cases this
        omega
      exact sm.low hn3
  | low _ _ _ _ =>
    intro ha
    exact absurd ha (by simp)
end Go.Proofs.Ytojlmpcbplepcaa
