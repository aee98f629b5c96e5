/- Texts merged: Cf, Sp. -/
import Derived.Test.YtojlmpcbplepcaaLe
/- Chapter 10: the contracts of package irregular as names: what the laws use. -/
namespace Go.Proofs.Ytojlmpcbplepcaa
open Go Go.Eng
structure NF where
  OK : List Int → Bool
  CK : List Int → Bool
  DK : CD → Bool
  BY : Int → Bool
  AL : List Int → Bool
  RG : CD → List Int → List Int → Bool
  OB : CD → List Int → List Int → Bool
  OE : CD → List Int → List Int → Int
  TV : CD → List Int → List Int → Int
  OP : CD → List Int → List Int → Int
  LV : CD → List Int → List Int → List Int
  KV : CD → List Int → List Int → Int → Int → Int
  KE : CD → List Int → List Int → Int → Int → Int
  DS : CD → List Int → List Int → Int → CD
  DX : CD → List Int → List Int → Int → Int
  DL : CD → List Int → List Int → Int → List Int
  DA : CD → List Int → List Int → Int → List Int
  AS : CD → List Int → List Int → Int → Int → CD
  AX : CD → List Int → List Int → Int → Int → Int
  ALs : CD → List Int → List Int → Int → Int → List Int
  AA : CD → List Int → List Int → Int → Int → List Int
  RS : CD → List Int → List Int → Int → Int → CD
  RX : CD → List Int → List Int → Int → Int → Int
  RL : CD → List Int → List Int → Int → Int → List Int
  RA : CD → List Int → List Int → Int → Int → List Int
def alB (xs : List Int) : Bool := decide (xs.length ≤ 99990)
def nF : NF := ⟨okL, lenOk, dkB, byB, alB, rgtI, ovrB, ovrE, tuV, opI, lgV, kdI, keI, doC, doX, doL, doK, fun s xs ac y x => (acI s xs ac y x).s, fun s xs ac y x => (acI s xs ac y x).e, fun s xs ac y x => (acI s xs ac y x).ys, fun s xs ac y x => (acI s xs ac y x).bc, rfC, rfX, rfL, rfK⟩
def crsV (s : CD) (ys bc : List Int) (e : Int) : V × List Blk := (.tuple [.agg (s.vs (.gs 2) (.gs 3)), .int .i64 e], crsNb ys bc)
def fOver (N : NF) : CH
  | [.agg l], [.rs _ 1 (.ints .u8 xs), .rs _ 1 (.ints .i64 ac)] => match ofCrs l with
    | some (s, .gs 0, .gs 1) => some (N.OK xs, .tuple [.bool (N.OB s xs ac), .int .i64 (N.OE s xs ac)], [])
    | _ => none
  | _, _ => none
def fRight (N : NF) : CH
  | [.agg l], [.rs _ 1 (.ints .u8 xs), .rs _ 1 (.ints .i64 ac)] => match ofCrs l with
    | some (s, .gs 0, .gs 1) => some (N.OK xs, .bool (N.RG s xs ac), [])
    | _ => none
  | _, _ => none
def fTurn (N : NF) : CH
  | [.agg l], [.rs _ 1 (.ints .u8 xs), .rs _ 1 (.ints .i64 ac)] => match ofCrs l with
    | some (s, .gs 0, .gs 1) => some (N.OK xs, .tuple [.int .u8 (N.TV s xs ac), .int .i64 (N.OP s xs ac)], [])
    | _ => none
  | _, _ => none
def fLegal (N : NF) : CH
  | [.agg l], [.rs _ 1 (.ints .u8 xs), .rs _ 1 (.ints .i64 ac)] => match ofCrs l with
    | some (s, .gs 0, .gs 1) => some (N.OK xs && N.DK s, .tuple [.gs 2, .int .i64 (N.OP s xs ac)], [.grow false 5 1 (.ints .u8 (N.LV s xs ac))])
    | _ => none
  | _, _ => none
def fDo (N : NF) : CH
  | [.agg l, .int .u8 x], [.rs _ 1 (.ints .u8 xs), .rs _ 1 (.ints .i64 ac)] => match ofCrs l with
    | some (s, .gs 0, .gs 1) => some (N.OK xs && (N.CK ac && (N.DK s && N.BY x)), crsV (N.DS s xs ac x) (N.DL s xs ac x) (N.DA s xs ac x) (N.DX s xs ac x))
    | _ => none
  | _, _ => none
def fKind (N : NF) : CH
  | [.agg l, .int .u8 y, .int .u8 x], [.rs _ 1 (.ints .u8 xs), .rs _ 1 (.ints .i64 ac)] => match ofCrs l with
    | some (s, .gs 0, .gs 1) => some (N.OK xs && (N.DK s && N.BY x), .tuple [.int .u8 (N.KV s xs ac y x), .int .i64 (N.KE s xs ac y x)], [])
    | _ => none
  | _, _ => none
def fAccept (N : NF) : CH
  | [.agg l, .int .u8 y, .int .u8 x], [.rs _ 1 (.ints .u8 xs), .rs _ 1 (.ints .i64 ac)] => match ofCrs l with
    | some (s, .gs 0, .gs 1) => some (N.OK xs && (N.CK ac && (N.DK s && (N.BY x && (N.BY y && N.AL xs)))), crsV (N.AS s xs ac y x) (N.ALs s xs ac y x) (N.AA s xs ac y x) (N.AX s xs ac y x))
    | _ => none
  | _, _ => none
def fRefuse (N : NF) : CH
  | [.agg l, .int .u8 y, .int .u8 x], [.rs _ 1 (.ints .u8 xs), .rs _ 1 (.ints .i64 ac)] => match ofCrs l with
    | some (s, .gs 0, .gs 1) => some (N.OK xs && (N.CK ac && (N.DK s && (N.BY x && N.BY y))), crsV (N.RS s xs ac y x) (N.RL s xs ac y x) (N.RA s xs ac y x) (N.RX s xs ac y x))
    | _ => none
  | _, _ => none
def hTabF (N : NF) (T : HTab) : HTab := addH 16 (fOver N) (addH 17 (fRight N) (addH 14 (fTurn N) (addH 18 (fLegal N) (addH 15 (fDo N) (addH 11 (fKind N) (addH 12 (fAccept N) (addH 13 (fRefuse N) T)))))))
theorem fOver_ok : cOk 16 (fOver nF) := by
  intro args hp c v nb hq hc
  unfold fOver at hq
  split at hq
  · split at hq
    · rename_i s hs
      cases hq
      rw [ofCrs_ok hs, List.append_nil]
      exact ⟨.of Try.func16 (by kernel_rfl), over16_fn _ _ hc⟩
    · cases hq
  · cases hq
theorem fRight_ok : cOk 17 (fRight nF) := by
  intro args hp c v nb hq hc
  unfold fRight at hq
  split at hq
  · split at hq
    · rename_i s hs
      cases hq
      rw [ofCrs_ok hs, List.append_nil]
      exact ⟨.of Try.func17 (by kernel_rfl), right17_fn _ _ hc⟩
    · cases hq
  · cases hq
theorem fTurn_ok : cOk 14 (fTurn nF) := by
  intro args hp c v nb hq hc
  unfold fTurn at hq
  split at hq
  · split at hq
    · rename_i s hs
      cases hq
      rw [ofCrs_ok hs, List.append_nil]
      exact ⟨.of Try.func14 (by kernel_rfl), turn14_fn _ _ hc⟩
    · cases hq
  · cases hq
theorem fLegal_ok : cOk 18 (fLegal nF) := by
  intro args hp c v nb hq hc
  unfold fLegal at hq
  split at hq
  · split at hq
    · rename_i s hs
      cases hq
      simp only [Bool.and_eq_true] at hc
      rw [ofCrs_ok hs]
      exact ⟨.of Try.func18 (by kernel_rfl), legal18_fn _ _ hc.1 hc.2⟩
    · cases hq
  · cases hq
theorem fDo_ok : cOk 15 (fDo nF) := by
  intro args hp c v nb hq hc
  unfold fDo at hq
  split at hq
  · split at hq
    · rename_i s hs
      cases hq
      simp only [Bool.and_eq_true] at hc
      rw [ofCrs_ok hs]
      exact ⟨.of Try.func15 (by kernel_rfl), do15_fn _ _ hc.1 hc.2.1 hc.2.2.1 hc.2.2.2⟩
    · cases hq
  · cases hq
theorem fKind_ok : cOk 11 (fKind nF) := by
  intro args hp c v nb hq hc
  unfold fKind at hq
  split at hq
  · split at hq
    · rename_i s hs
      cases hq
      simp only [Bool.and_eq_true] at hc
      rw [ofCrs_ok hs, List.append_nil]
      exact ⟨.of Try.func11 (by kernel_rfl), kind11_fn _ _ _ hc.1 hc.2.1 hc.2.2⟩
    · cases hq
  · cases hq
theorem fAccept_ok : cOk 12 (fAccept nF) := by
  intro args hp c v nb hq hc
  unfold fAccept at hq
  split at hq
  · split at hq
    · rename_i s hs
      cases hq
      simp only [Bool.and_eq_true] at hc
      obtain ⟨h1, h2, h3, h4, h5, h6⟩ := hc
      rw [ofCrs_ok hs]
      exact ⟨.of Try.func12 (by kernel_rfl), accept12_fn _ _ h1 h2 h3 h4 (of_decide_eq_true h5).1 (of_decide_eq_true h6)⟩
    · cases hq
  · cases hq
theorem fRefuse_ok : cOk 13 (fRefuse nF) := by
  intro args hp c v nb hq hc
  unfold fRefuse at hq
  split at hq
  · split at hq
    · rename_i s hs
      cases hq
      simp only [Bool.and_eq_true] at hc
      obtain ⟨h1, h2, h3, h4, h5⟩ := hc
      rw [ofCrs_ok hs]
      exact ⟨.of Try.func13 (by kernel_rfl), refuse13_fn _ _ h1 h2 h3 h4 (of_decide_eq_true h5).1⟩
    · cases hq
  · cases hq
theorem hTabF_ok {T : HTab} (hT : HTabOk Try.prog T) : HTabOk Try.prog (hTabF nF T) :=
  addH_ok fOver_ok (addH_ok fRight_ok (addH_ok fTurn_ok (addH_ok fLegal_ok (addH_ok fDo_ok (addH_ok fKind_ok (addH_ok fAccept_ok (addH_ok fRefuse_ok hT)))))))
def domF : FuncId → Bool := fun f => Nat.ble 11 f && Nat.ble f 18
noncomputable abbrev orcF (N : NF) (T : PTab) (LL : FuncId → Loops) : Oracle := inl Try.prog ftab T LL 100 never domF (hOrcX nrC (hTabF N emptyH)) 20
theorem orcF_ok {T : PTab} (hT : PTabOk Try.prog T) {LL : FuncId → Loops} (hL : ∀ f, loopsOk Try.prog (LL f)) : OracleOk Try.prog (orcF nF T LL) := inl_ok (hOrcX_ok (hTabF_ok emptyH_ok)) ftab_ok hT hL mixed 20
theorem awake_run : evalFn Try.prog (orcF nF emptyTab plainL) noLoops 100 9 Try.f9 [] [] (fun v _ => some v) = some (.bool true) := by kernel_rfl
theorem awake_p : FnPure Try.prog 9 [] (.bool true) := fnPure_of_eval (orcF_ok emptyTab_ok plainL_ok) mixed Try.func9 (by kernel_rfl) noLoops_ok awake_run rfl rfl
end Go.Proofs.Ytojlmpcbplepcaa

/- Chapter 10: step: its formula. -/
namespace Go.Proofs.Ytojlmpcbplepcaa
open Go Go.Eng
def ansB (s : CD) (b : Bool) (xs ac ys bc : List Int) : List PV := s.pv [.b b, .l xs, .l ac, .l ys, .l bc]
noncomputable def stR (N : NF) (s : CD) (xs ac : List Int) (y v : Int) : AN := bif N.OK xs && (N.CK ac && (N.DK s && (N.BY v && N.BY y))) then some (ansB (N.RS s xs ac y v) (decide (N.RX s xs ac y v = 0)) xs ac (N.RL s xs ac y v) (N.RA s xs ac y v), []) else none
noncomputable def stE (N : NF) (s : CD) (xs ac : List Int) (w y v : Int) : AN := bif N.OK xs && (N.DK s && N.BY v) then bif !decide (N.KE s xs ac y v = 0) then none else bif decide (N.KV s xs ac y v = 0) then
    bif N.OK xs && (N.CK ac && (N.DK s && N.BY v)) then bif decide (N.DX s xs ac v = 0) then some (ansB (N.DS s xs ac v) true xs ac (N.DL s xs ac v) (N.DA s xs ac v), []) else none else none else
  bif N.OK xs && (N.CK ac && (N.DK s && (N.BY v && (N.BY y && N.AL xs)))) then bif decide (w.tmod 3 = 0) then bif decide (N.AX s xs ac y v = 0) then some (ansB (N.AS s xs ac y v) true xs ac (N.ALs s xs ac y v) (N.AA s xs ac y v), []) else stR N s xs ac y v else stR N s xs ac y v else none else none
noncomputable def stT (N : NF) (s : CD) (xs ac : List Int) (x b w : Int) (t : Int) : AN := bif N.OK xs && N.DK s then bif decide (w.tmod 3 = 2) then bif decide (N.OP s xs ac = 0) then bif decide (0 < Int.ofNat (N.LV s xs ac).length) then bif decide (Int.ofNat (N.LV s xs ac).length = 0) then none else
    bif decide (0 ≤ (wr .i64 x).tmod (Int.ofNat (N.LV s xs ac).length) ∧ (wr .i64 x).tmod (Int.ofNat (N.LV s xs ac).length) < Int.ofNat (N.LV s xs ac).length) then atN (N.LV s xs ac) ((wr .i64 x).tmod (Int.ofNat (N.LV s xs ac).length)).toNat fun v => stE N s xs ac w t v else none else
    stE N s xs ac w ((wr .u8 (t + (b.tmod 6).tmod 4)).tmod 4) (x.tmod 38) else stE N s xs ac w ((wr .u8 (t + (b.tmod 6).tmod 4)).tmod 4) (x.tmod 38) else stE N s xs ac w ((wr .u8 (t + (b.tmod 6).tmod 4)).tmod 4) (x.tmod 38) else none
theorem step_eval (N : NF) (xs ac : List Int) (s : CD) (x b w : Int) : evalFn Try.prog (orcF N emptyTab plainL) noLoops 100 20 Try.f20 [.agg (s.vs (.gs 0) (.gs 1)), .agg [.int .u8 x, .int .u8 b, .int .u8 w]] (crsH false false xs ac) (ansT (crsA false false [.bool]) 2) =
    bif N.OK xs then bif !decide (N.OP s xs ac = 0) then stT N s xs ac x b w 0 else stT N s xs ac x b w (N.TV s xs ac) else none := by kernel_rfl
end Go.Proofs.Ytojlmpcbplepcaa
