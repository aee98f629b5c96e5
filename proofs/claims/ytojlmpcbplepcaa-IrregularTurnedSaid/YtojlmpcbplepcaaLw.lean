/- Chapter 10: all contracts, for the laws. -/
import Derived.Test.YtojlmpcbplepcaaLd
import Derived.Test.YtojlmpcbplepcaaMd3
import Derived.Test.YtojlmpcbplepcaaKit11
namespace Go.Proofs.Ytojlmpcbplepcaa
open Go Go.Eng
structure NL where
  F : NF
  M : NMk
  S : NS
  E : NE
  LV : CD → List Int → List Int → Int
  LE : CD → List Int → List Int → Int
  EQ : List Int → List Int → Bool
  ANY : List Int → Bool
  KL : List Int → Bool
def klB (xs : List Int) : Bool := decide (xs.length ≤ 1000000)
noncomputable def nL : NL := ⟨nF, nMk, nS, nE, leadV, leadE, eqI, anyN, klB⟩
def lLead (N : NL) : CH
  | [.agg l], [.rs _ 1 (.ints .u8 xs), .rs _ 1 (.ints .i64 ac)] => match ofCrs l with
    | some (s, .gs 0, .gs 1) => some (N.F.OK xs, .tuple [.int .u8 (N.LV s xs ac), .int .i64 (N.LE s xs ac)], [])
    | _ => none
  | _, _ => none
theorem lLead_ok : cOk 26 (lLead nL) := by
  intro args hp c v nb hq hc
  unfold lLead at hq
  split at hq
  · split at hq
    · rename_i s hs
      cases hq
      rw [ofCrs_ok hs, List.append_nil]
      exact ⟨.of Try.func26 (by kernel_rfl), lead26_fn _ _ hc⟩
    · cases hq
  · cases hq
def lEqU (N : NL) : CH
  | [.gs 0, .gs 1], [.rs _ 1 (.ints .u8 xs), .rs _ 1 (.ints .u8 ys)] => some (N.KL xs, .bool (N.EQ xs ys), [])
  | _, _ => none
def lEqI (N : NL) : CH
  | [.gs 0, .gs 1], [.rs _ 1 (.ints .i64 xs), .rs _ 1 (.ints .i64 ys)] => some (N.KL xs, .bool (N.EQ xs ys), [])
  | _, _ => none
theorem lEq24_ok : cOk 24 (lEqU nL) := by
  intro args hp c v nb hq hc
  unfold lEqU at hq
  split at hq
  · cases hq; exact ⟨.of Try.func24 (by kernel_rfl), sb_fn _ _ (of_decide_eq_true hc)⟩
  · cases hq
theorem lEq19_ok : cOk 19 (lEqU nL) := by
  intro args hp c v nb hq hc
  unfold lEqU at hq
  split at hq
  · cases hq; exact ⟨.of Try.func19 (by kernel_rfl), se_fn _ _ (of_decide_eq_true hc)⟩
  · cases hq
theorem lEq25_ok : cOk 25 (lEqI nL) := by
  intro args hp c v nb hq hc
  unfold lEqI at hq
  split at hq
  · cases hq; exact ⟨.of Try.func25 (by kernel_rfl), si_fn _ _ (of_decide_eq_true hc)⟩
  · cases hq
def lAny (N : NL) : CH
  | [.gs 0, .func 22 []], [.rs _ 1 (.ints .u8 xs)] => some (N.KL xs, .bool (N.ANY xs), [])
  | _, _ => none
theorem lAny_ok : cOk 21 (lAny nL) := by
  intro args hp c v nb hq hc
  unfold lAny at hq
  split at hq
  · cases hq; exact ⟨.of Try.func21 (by kernel_rfl), conf_fn _ (of_decide_eq_true hc)⟩
  · cases hq
def hTabW (N : NL) : HTab := addH 10 (fMade N.M) (addH 20 (fStep N.S) (addH 23 (dCon N.E) (addH 26 (lLead N) (addH 24 (lEqU N) (addH 19 (lEqU N) (addH 25 (lEqI N) (addH 21 (lAny N) (hTabF N.F emptyH))))))))
theorem hTabW_ok : HTabOk Try.prog (hTabW nL) := addH_ok fMade_ok (addH_ok fStep_ok (addH_ok dCon_ok (addH_ok lLead_ok (addH_ok lEq24_ok (addH_ok lEq19_ok (addH_ok lEq25_ok (addH_ok lAny_ok (hTabF_ok emptyH_ok))))))))
def nrW : FuncId → Nat → Option Row := fun f n => bif Nat.beq f 25 then some (.ints .i64 []) else bif Nat.beq f 24 || Nat.beq f 19 then some (.ints .u8 []) else nrC f n
def domW : FuncId → Bool := fun f => domF f || (Nat.beq f 10 || (Nat.beq f 19 || (Nat.beq f 20 || (Nat.beq f 21 || (Nat.beq f 23 || (Nat.beq f 24 || (Nat.beq f 25 || Nat.beq f 26)))))))
noncomputable abbrev orcW (N : NL) (T : PTab) (LL : FuncId → Loops) : Oracle := inl Try.prog ftab T LL 100 never domW (hOrcX nrW (hTabW N)) 20
theorem orcW_ok {T : PTab} (hT : PTabOk Try.prog T) {LL : FuncId → Loops} (hL : ∀ f, loopsOk Try.prog (LL f)) : OracleOk Try.prog (orcW nL T LL) := inl_ok (hOrcX_ok hTabW_ok) ftab_ok hT hL mixed 20
/-! ### IrregularStays: its loops -/
noncomputable def saLp : Code := loopOf 5 Try.f4
def saBk : List TB := [.rs false 3 (.ints .u8), .own 29 (.vs (crsT (.gs 2) (.gs 3))), .grow false 5 1 (.ints .u8), .grow false 3 1 (.ints .i64)]
def saT : Tm := ⟨mkS [(4, .bool), (5, .ptr 1 0), (30, .view 0 3), (31, .int .i64), (32, .int .i64)] 0 214, saBk, []⟩
def saX : Tm := ⟨mkS [(4, .bool), (5, .ptr 1 0)] 0 214, saBk, []⟩
noncomputable def sbLp4 : Code := loopOf 23 Try.f4
def sbT4 : Tm := ⟨mkS [(4, .bool), (5, .ptr 1 0), (176, .int .i64)] 0 214, saBk, []⟩
def sbX4 : Tm := ⟨mkS [(4, .bool)] 0 214, [.rs false 3 (.ints .u8)], []⟩
end Go.Proofs.Ytojlmpcbplepcaa
