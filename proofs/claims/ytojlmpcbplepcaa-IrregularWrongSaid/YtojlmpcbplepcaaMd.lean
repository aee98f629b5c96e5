/- Chapter 10: Made: one round. -/
import Derived.Test.YtojlmpcbplepcaaSp2
namespace Go.Proofs.Ytojlmpcbplepcaa
open Go Go.Eng
/-- step's contract as names. -/
structure NS where
  SO : CD → List Int → List Int → Bool
  SC : CD → List Int → List Int → Int → Int → Int → CD
  SL : CD → List Int → List Int → Int → Int → Int → List Int
  SA : CD → List Int → List Int → Int → Int → Int → List Int
  BY : Int → Bool
noncomputable def okRCb (s : CD) (xs ac : List Int) : Bool := @decide (okRC s xs ac) (Classical.propDecidable _)
theorem okRCb_iff {s : CD} {xs ac : List Int} : okRCb s xs ac = true ↔ okRC s xs ac := by unfold okRCb; exact @decide_eq_true_iff _ (Classical.propDecidable _)
noncomputable def nS : NS := ⟨okRCb, fun s xs ac x b w => (stepI s xs ac x b w).s, fun s xs ac x b w => (stepI s xs ac x b w).ys, fun s xs ac x b w => (stepI s xs ac x b w).bc, byB⟩
def fStep (N : NS) : CH
  | [.agg l, .agg [.int .u8 x, .int .u8 b, .int .u8 w]], [.rs _ 1 (.ints .u8 xs), .rs _ 1 (.ints .i64 ac)] => match ofCrs l with
    | some (s, .gs 0, .gs 1) => some (N.SO s xs ac && (N.BY x && N.BY b), (.tuple [.agg ((N.SC s xs ac x b w).vs (.gs 2) (.gs 3)), .bool true], crsNb (N.SL s xs ac x b w) (N.SA s xs ac x b w)))
    | _ => none
  | _, _ => none
theorem byB_iff {x : Int} : byB x = true ↔ 0 ≤ x ∧ x ≤ 255 := by unfold byB; rw [decide_eq_true_iff]; omega
theorem fStep_ok : cOk 20 (fStep nS) := by
  intro args hp c v nb hq hc
  unfold fStep at hq
  split at hq
  · split at hq
    · rename_i s hs
      cases hq
      simp only [Bool.and_eq_true] at hc
      obtain ⟨h1, h2, h3⟩ := hc
      rw [ofCrs_ok hs]
      exact ⟨.of Try.func20 (by kernel_rfl), step20_fn _ _ (okRCb_iff.1 h1) (byB_iff.1 h2) (byB_iff.1 h3)⟩
    · cases hq
  · cases hq
def hTabS (N : NS) (T : HTab) : HTab := addH 20 (fStep N) T
def domS : FuncId → Bool := fun f => Nat.beq f 20
noncomputable abbrev orcS (N : NS) (T : PTab) (LL : FuncId → Loops) : Oracle := inl Try.prog ftab T LL 100 never domS (hOrcX nrC (hTabS N emptyH)) 20
theorem orcS_ok {T : PTab} (hT : PTabOk Try.prog T) {LL : FuncId → Loops} (hL : ∀ f, loopsOk Try.prog (LL f)) : OracleOk Try.prog (orcS nS T LL) := inl_ok (hOrcX_ok (addH_ok fStep_ok emptyH_ok)) ftab_ok hT hL mixed 20
noncomputable def mdLp : Code := loopOf 3 Try.f10
def mdT : Tm := ⟨mkS [(4, .ptr 1 0), (6, .ptr 2 0), (18, .view 0 3), (19, .int .i64), (20, .int .i64)] 0 36, [.rs false 3 (.ints .u8), .own 29 (.vs (crsT .nil .nil)), .own 29 (.vs (crsT (.gs 3) (.gs 4))), .grow false 5 1 (.ints .u8), .grow false 3 1 (.ints .i64)], []⟩
def mdX : Tm := ⟨mkS [(4, .ptr 1 0), (6, .ptr 2 0)] 0 36, [.rs false 3 (.ints .u8), .own 29 (.vs (crsT .nil .nil)), .own 29 (.vs (crsT (.gs 3) (.gs 4))), .grow false 5 1 (.ints .u8), .grow false 3 1 (.ints .i64)], []⟩
abbrev mdIn (k : Nat) (n i : Int) (ws : List Int) (z s : CD) (xs ac : List Int) : List PV := .n 0 :: .n k :: .i n :: .i i :: .l ws :: z.pv (s.pv [.l xs, .l ac])
abbrev mdOut (ws : List Int) (z s : CD) (xs ac : List Int) : List PV := .l ws :: z.pv (s.pv [.l xs, .l ac])
/-- The act at a place. -/
def aX (ws : List Int) (p : Nat) : Int := ws.getD p 0
def aB (ws : List Int) (p : Nat) : Int := ws.getD (p + 1) 0
def aW (ws : List Int) (p : Nat) : Int := ws.getD (p + 1 + 1) 0
theorem md_round (N : NS) (rd : Option Nat) (k : Nat) (n i : Int) (ws xs ac : List Int) (z s : CD) : roundT Try.prog (orcS N emptyTab plainL) noLoops 100 1 rd 10 mdLp mdT mdX (mdIn k n i ws z s xs ac) =
    bif decide (i < n) then bif decide (0 ≤ i ∧ i < Int.ofNat k ∧ 0 + k ≤ ws.length / 3) then bif decide (i.toNat * 3 + 3 ≤ ws.length) then bif N.SO s xs ac && (N.BY (aX ws (i.toNat * 3)) && N.BY (aB ws (i.toNat * 3))) then
      some (.normal, mdIn k n (wr .i64 (i + 1)) ws z (N.SC s xs ac (aX ws (i.toNat * 3)) (aB ws (i.toNat * 3)) (aW ws (i.toNat * 3))) (N.SL s xs ac (aX ws (i.toNat * 3)) (aB ws (i.toNat * 3)) (aW ws (i.toNat * 3))) (N.SA s xs ac (aX ws (i.toNat * 3)) (aB ws (i.toNat * 3)) (aW ws (i.toNat * 3))), [])
    else none else none else none else some (.exit 0, mdOut ws z s xs ac, []) := by kernel_rfl
end Go.Proofs.Ytojlmpcbplepcaa
