/- Chapter 10: IrregularPlain: contracts with literal errors: the auction over, or not. -/
import Derived.Test.YtojlmpcbplepcaaLw
import Derived.Test.YtojlmpcbplepcaaPl2
namespace Go.Proofs.Ytojlmpcbplepcaa
open Go Go.Eng
structure NP where
  A18 : CD → List Int → List Int → Bool
  A14 : CD → List Int → List Int → Bool
  A23 : CD → List Int → List Int → Bool
  A30 : Int → List Int → Bool
  A31 : Int → List Int → Bool
  A32 : Int → List Int → Bool
  LV : CD → List Int → List Int → List Int
  TV : CD → List Int → List Int → Int
  BV : Int → List Int → List Int
  UV : Int → List Int → Int
  CQ : CD → List Int → List Int → Q4
  DQ : Int → List Int → Q4
def pLegal (P : NP) (e : Int) (lv : CD → List Int → List Int → List Int) : CH
  | [.agg l], [.rs _ 1 (.ints .u8 xs), .rs _ 1 (.ints .i64 ac)] => match ofCrs l with
    | some (s, .gs 0, .gs 1) => some (P.A18 s xs ac, .tuple [.gs 2, .int .i64 e], [.grow false 5 1 (.ints .u8 (lv s xs ac))])
    | _ => none
  | _, _ => none
def pTurn (P : NP) (e : Int) : CH
  | [.agg l], [.rs _ 1 (.ints .u8 xs), .rs _ 1 (.ints .i64 ac)] => match ofCrs l with
    | some (s, .gs 0, .gs 1) => some (P.A14 s xs ac, .tuple [.int .u8 (P.TV s xs ac), .int .i64 e], [])
    | _ => none
  | _, _ => none
def pCon (P : NP) (g : Int) : CH
  | [.agg l], [.rs _ 1 (.ints .u8 xs), .rs _ 1 (.ints .i64 ac)] => match ofCrs l with
    | some (s, .gs 0, .gs 1) => some (P.A23 s xs ac, cnV (P.CQ s xs ac) g, [])
    | _ => none
  | _, _ => none
def pLeg9 (P : NP) (f : Int) : CH
  | [.int .u8 d, .gs 0], [.rs _ 1 (.ints .u8 xs)] => some (P.A30 d xs, .tuple [.gs 1, .int .i64 f], [.grow false 5 1 (.ints .u8 (P.BV d xs))])
  | _, _ => none
def pTurn9 (P : NP) (f : Int) : CH
  | [.int .u8 d, .gs 0], [.rs _ 1 (.ints .u8 xs)] => some (P.A31 d xs, .tuple [.int .u8 (P.UV d xs), .int .i64 f], [])
  | _, _ => none
def pCon9 (P : NP) (h : Int) : CH
  | [.int .u8 d, .gs 0], [.rs _ 1 (.ints .u8 xs)] => some (P.A32 d xs, cnV (P.DQ d xs) h, [])
  | _, _ => none
def tvF (F : FR) : Int := bif decide (F.e = 0) then (bif ovr F.s then 0 else F.s.turn) else 0
def teF (F : FR) : Int := bif decide (F.e = 0) then (bif ovr F.s then 90 else 0) else 2
def dqF (F : FR) : Q4 := bif decide (F.e = 0) then (bif ovr F.s then (bif F.s.b.m then ⟨F.s.b.l, F.s.b.d, F.s.risk, (F.s.fst (kOf F.s.b.s F.s.b.d)).s⟩ else q0) else q0) else q0
def deF (F : FR) : Int := bif decide (F.e = 0) then (bif ovr F.s then 0 else 91) else 2
theorem turnV_is (F : FR) : turnV ovr F = .tuple [.int .u8 (tvF F), .int .i64 (teF F)] := by
  unfold turnV tvF teF; cases decide (F.e = 0) <;> cases ovr F.s <;> rfl
theorem contrV_is (F : FR) : contrV ovr F = cnV (dqF F) (deF F) := by
  unfold contrV dqF deF; cases decide (F.e = 0) <;> cases ovr F.s <;> cases F.s.b.m <;> rfl
def nP (b : Bool) : NP := ⟨fun s xs ac => (okL xs && dkB s) && decide (opI s xs ac = bif b then 101 else 0), fun s xs ac => okL xs && decide (opI s xs ac = bif b then 101 else 0), fun s xs ac => okL xs && decide (conE s xs ac = bif b then 0 else 102),
  fun d xs => okA d xs && decide (legE (fol d xs) = bif b then 90 else 0), fun d xs => okA d xs && decide (teF (fol d xs) = bif b then 90 else 0), fun d xs => okA d xs && decide (deF (fol d xs) = bif b then 0 else 91),
  lgV, tuV, fun d xs => legV (fol d xs), fun d xs => tvF (fol d xs), conI, fun d xs => dqF (fol d xs)⟩
def lvB (b : Bool) : CD → List Int → List Int → List Int := bif b then fun _ _ _ => [] else lgV
theorem pLegal_ok (b : Bool) : cOk 18 (pLegal (nP b) (bif b then 101 else 0) (lvB b)) := by
  intro args hp c v nb hq hc
  unfold pLegal at hq
  split at hq
  · split at hq
    · rename_i s hs
      cases hq
      have hc2 : ((okL _ && dkB s) && decide (opI s _ _ = bif b then 101 else 0)) = true := hc
      simp only [Bool.and_eq_true, decide_eq_true_eq] at hc2
      have el : ∀ xs ac, opI s xs ac = (bif b then 101 else 0) → lvB b s xs ac = lgV s xs ac := fun xs ac h => by
        cases b with
        | true => unfold lgV; rw [h]; rfl
        | false => rfl
      rw [ofCrs_ok hs, el _ _ hc2.2, ← hc2.2]
      exact ⟨.of Try.func18 (by kernel_rfl), legal18_fn _ _ hc2.1.1 hc2.1.2⟩
    · cases hq
  · cases hq
theorem pTurn_ok (b : Bool) : cOk 14 (pTurn (nP b) (bif b then 101 else 0)) := by
  intro args hp c v nb hq hc
  unfold pTurn at hq
  split at hq
  · split at hq
    · rename_i s hs
      cases hq
      have hc2 : (okL _ && decide (opI s _ _ = bif b then 101 else 0)) = true := hc
      simp only [Bool.and_eq_true, decide_eq_true_eq] at hc2
      rw [ofCrs_ok hs, List.append_nil, ← hc2.2]
      exact ⟨.of Try.func14 (by kernel_rfl), turn14_fn _ _ hc2.1⟩
    · cases hq
  · cases hq
theorem pCon_ok (b : Bool) : cOk 23 (pCon (nP b) (bif b then 0 else 102)) := by
  intro args hp c v nb hq hc
  unfold pCon at hq
  split at hq
  · split at hq
    · rename_i s hs
      cases hq
      have hc2 : (okL _ && decide (conE s _ _ = bif b then 0 else 102)) = true := hc
      simp only [Bool.and_eq_true, decide_eq_true_eq] at hc2
      rw [ofCrs_ok hs, List.append_nil, ← hc2.2]
      exact ⟨.of Try.func23 (by kernel_rfl), contract23_fn _ _ hc2.1⟩
    · cases hq
  · cases hq
theorem pLeg9_ok (b : Bool) : cOk 30 (pLeg9 (nP b) (bif b then 90 else 0)) := by
  intro args hp c v nb hq hc
  unfold pLeg9 at hq
  split at hq
  · rename_i d nn xs
    cases hq
    have hc2 : (okA d xs && decide (legE (fol d xs) = bif b then 90 else 0)) = true := hc
    simp only [Bool.and_eq_true, decide_eq_true_eq] at hc2
    rw [← hc2.2]
    exact ⟨.of Try.func30 (by kernel_rfl), legal_fn _ hc2.1⟩
  · cases hq
theorem pTurn9_ok (b : Bool) : cOk 31 (pTurn9 (nP b) (bif b then 90 else 0)) := by
  intro args hp c v nb hq hc
  unfold pTurn9 at hq
  split at hq
  · rename_i d nn xs
    cases hq
    have hc2 : (okA d xs && decide (teF (fol d xs) = bif b then 90 else 0)) = true := hc
    simp only [Bool.and_eq_true, decide_eq_true_eq] at hc2
    rw [← hc2.2, List.append_nil]
    have := turn19_fn nn hc2.1
    rw [turnV_is] at this
    exact ⟨.of Try.func31 (by kernel_rfl), this⟩
  · cases hq
theorem pCon9_ok (b : Bool) : cOk 32 (pCon9 (nP b) (bif b then 0 else 91)) := by
  intro args hp c v nb hq hc
  unfold pCon9 at hq
  split at hq
  · rename_i d nn xs
    cases hq
    have hc2 : (okA d xs && decide (deF (fol d xs) = bif b then 0 else 91)) = true := hc
    simp only [Bool.and_eq_true, decide_eq_true_eq] at hc2
    rw [← hc2.2, List.append_nil]
    have := contr15_fn nn hc2.1
    rw [contrV_is] at this
    exact ⟨.of Try.func32 (by kernel_rfl), this⟩
  · cases hq
def hTabP (N : NL) (P : NP) (e f g h : Int) (lv : CD → List Int → List Int → List Int) : HTab := addH 18 (pLegal P e lv) (addH 14 (pTurn P e) (addH 23 (pCon P g) (addH 30 (pLeg9 P f) (addH 31 (pTurn9 P f) (addH 32 (pCon9 P h) (hTabW N))))))
theorem hTabP_ok (b : Bool) : HTabOk Try.prog (hTabP nL (nP b) (bif b then 101 else 0) (bif b then 90 else 0) (bif b then 0 else 102) (bif b then 0 else 91) (lvB b)) := addH_ok (pLegal_ok b) (addH_ok (pTurn_ok b) (addH_ok (pCon_ok b) (addH_ok (pLeg9_ok b) (addH_ok (pTurn9_ok b) (addH_ok (pCon9_ok b) hTabW_ok)))))
def nrP : FuncId → Nat → Option Row := fun f n => bif Nat.ble 30 f && Nat.ble f 32 then some (.ints .u8 []) else nrW f n
def domP : FuncId → Bool := fun f => (Nat.ble 30 f && Nat.ble f 32) || domW f
noncomputable abbrev orcP (N : NL) (P : NP) (e f g h : Int) (lv : CD → List Int → List Int → List Int) : Oracle := inl Try.prog ftab tabAw plainL 100 never domP (hOrcX nrP (hTabP N P e f g h lv)) 20
theorem orcP_ok (b : Bool) : OracleOk Try.prog (orcP nL (nP b) (bif b then 101 else 0) (bif b then 90 else 0) (bif b then 0 else 102) (bif b then 0 else 91) (lvB b)) := inl_ok (hOrcX_ok (hTabP_ok b)) ftab_ok tabAw_ok plainL_ok mixed 20
noncomputable def ppLp : Code := loopOf 6 Try.f8
def ppT : Tm := ⟨mkS [(1, .gs 0), (4, .bool), (5, .ptr 1 0), (6, .int .i64)] 0 184, [.rs false 1 (.ints .u8), .own 29 (.vs (crsT (.gs 2) (.gs 3))), .grow false 5 1 (.ints .u8), .grow false 3 1 (.ints .i64)], []⟩
def ppX : Tm := ⟨mkS [(4, .bool)] 0 184, [.rs false 1 (.ints .u8)], []⟩
end Go.Proofs.Ytojlmpcbplepcaa
