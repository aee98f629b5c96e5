/- Chapter 10: IrregularStays: its rounds. -/
import Derived.Test.YtojlmpcbplepcaaLw
namespace Go.Proofs.Ytojlmpcbplepcaa
open Go Go.Eng
abbrev ANx := Option (XE × List PV × List (Code × Code))
abbrev saIn (r : Bool) (k : Nat) (n i : Int) (ws : List Int) (s : CD) (xs ac : List Int) : List PV := .b r :: .n 0 :: .n k :: .i n :: .i i :: .l ws :: s.pv [.l xs, .l ac]
abbrev saOut (r : Bool) (ws : List Int) (s : CD) (xs ac : List Int) : List PV := .b r :: .l ws :: s.pv [.l xs, .l ac]
abbrev sbIn (r : Bool) (i : Int) (ws : List Int) (s : CD) (xs ac : List Int) : List PV := .b r :: .i i :: .l ws :: s.pv [.l xs, .l ac]
noncomputable def sbF (b : Bool) (ws : List Int) : ANx := some (.ret, [.b b, .l ws], [])
theorem ss_round (N : NL) (rd : Option Nat) (r : Bool) (i : Int) (ws xs ac : List Int) (s : CD) : roundT Try.prog (orcW N tabAw plainL) noLoops 100 1 rd 4 sbLp4 sbT4 sbX4 (sbIn r i ws s xs ac) =
    bif decide (i < 12) then bif N.F.OK xs && N.F.DK s then bif decide (N.F.OP s xs ac = 101) then bif N.E.OK xs then bif decide (N.E.CE s xs ac = 0) then bif N.F.OK xs then sbF (N.F.RG s xs ac) ws else none else sbF false ws else none else
      bif !decide (N.F.OP s xs ac = 0) then sbF false ws else bif decide (Int.ofNat (N.F.LV s xs ac).length = 0) then sbF false ws else bif decide ((0 : Int) ≤ 0 ∧ 0 < Int.ofNat (N.F.LV s xs ac).length) then atN (N.F.LV s xs ac) 0 fun v => bif N.F.OK xs && (N.F.CK ac && (N.F.DK s && N.F.BY v)) then bif !decide (N.F.DX s xs ac v = 0) then sbF false ws else
        some (.normal, sbIn r (wr .i64 (i + 1)) ws (N.F.DS s xs ac v) (N.F.DL s xs ac v) (N.F.DA s xs ac v), []) else none else none else none else some (.exit 2, [.b r, .l ws], []) := by kernel_rfl
noncomputable def saF (ws : List Int) (s : CD) (xs ac : List Int) : ANx := some (.ret, saOut false ws s xs ac, [])
/-- What follows a step: S, L, A what it made. -/
noncomputable def saY (N : NL) (r : Bool) (k : Nat) (n i : Int) (ws : List Int) (s : CD) (xs ac : List Int) (S : CD) (L A : List Int) (n0 m : Int) (k2 : Nat) : ANx :=
  bif decide (m < n0) then saF ws s xs ac else bif decide (wr .i64 (n0 + 4) < m) then saF ws s xs ac else bif decide ((0 : Int) ≤ 0 ∧ 0 ≤ n0 ∧ n0 ≤ m) then bif decide (0 + (n0.toNat - 0) ≤ L.length) then
  bif N.KL ((L.drop 0).take (n0.toNat - 0)) then bif !N.EQ ((L.drop 0).take (n0.toNat - 0)) xs then saF ws s xs ac else bif !decide (S.d = s.d) then saF ws s xs ac else
  bif decide (Int.ofNat A.length < Int.ofNat ac.length) then saF ws s xs ac else bif decide (wr .i64 (Int.ofNat ac.length + 1) < Int.ofNat A.length) then saF ws s xs ac else
  bif decide ((0 : Int) ≤ n0 ∧ n0 ≤ m ∧ m ≤ m) then bif decide (1 < Int.ofNat k2) then bif decide (n0.toNat + k2 ≤ L.length) then bif decide ((0 : Int) ≤ 0 ∧ 0 ≤ wr .i64 (Int.ofNat k2 - 1) ∧ wr .i64 (Int.ofNat k2 - 1) ≤ Int.ofNat k2) then
  bif decide (n0.toNat + (wr .i64 (Int.ofNat k2 - 1)).toNat ≤ L.length) then bif N.KL ((L.drop n0.toNat).take (wr .i64 (Int.ofNat k2 - 1)).toNat) then bif N.ANY ((L.drop n0.toNat).take (wr .i64 (Int.ofNat k2 - 1)).toNat) then saF ws s xs ac else
    some (.normal, saIn r k n (wr .i64 (i + 1)) ws S L A, []) else none else none else none else none else
    some (.normal, saIn r k n (wr .i64 (i + 1)) ws S L A, []) else none else none else none else none
noncomputable def saX2 (N : NL) (r : Bool) (k : Nat) (n i : Int) (ws : List Int) (s : CD) (xs ac : List Int) (x b w : Int) : ANx :=
  bif N.S.SO s xs ac && (N.S.BY x && N.S.BY b) then saY N r k n i ws s xs ac (N.S.SC s xs ac x b w) (N.S.SL s xs ac x b w) (N.S.SA s xs ac x b w) (Int.ofNat xs.length) (Int.ofNat (N.S.SL s xs ac x b w).length) ((Int.ofNat (N.S.SL s xs ac x b w).length).toNat - (Int.ofNat xs.length).toNat) else none
noncomputable def saP (N : NL) (ws : List Int) (s : CD) (xs ac : List Int) (p : Int) (X : ANx) : ANx :=
  bif !decide (p = 0) then bif N.KL (N.F.LV s xs ac) then bif !N.EQ (N.F.LV s xs ac) [0] then saF ws s xs ac else X else none else X
/-! ### the front of a round, for a right course: over, or with a seat's turn -/
structure NQ where
  A16 : CD → List Int → List Int → Bool
  A17 : CD → List Int → List Int → Bool
  A14 : CD → List Int → List Int → Bool
  A18 : CD → List Int → List Int → Bool
def kOver (Q : NQ) (b : Bool) : CH
  | [.agg l], [.rs _ 1 (.ints .u8 xs), .rs _ 1 (.ints .i64 ac)] => match ofCrs l with
    | some (s, .gs 0, .gs 1) => some (Q.A16 s xs ac, .tuple [.bool b, .int .i64 0], [])
    | _ => none
  | _, _ => none
def kRight (Q : NQ) : CH
  | [.agg l], [.rs _ 1 (.ints .u8 xs), .rs _ 1 (.ints .i64 ac)] => match ofCrs l with
    | some (s, .gs 0, .gs 1) => some (Q.A17 s xs ac, .bool true, [])
    | _ => none
  | _, _ => none
def kTurn (Q : NQ) (t e : Int) : CH
  | [.agg l], [.rs _ 1 (.ints .u8 xs), .rs _ 1 (.ints .i64 ac)] => match ofCrs l with
    | some (s, .gs 0, .gs 1) => some (Q.A14 s xs ac, .tuple [.int .u8 t, .int .i64 e], [])
    | _ => none
  | _, _ => none
def kLegal (N : NF) (Q : NQ) (e : Int) : CH
  | [.agg l], [.rs _ 1 (.ints .u8 xs), .rs _ 1 (.ints .i64 ac)] => match ofCrs l with
    | some (s, .gs 0, .gs 1) => some (Q.A18 s xs ac, .tuple [.gs 2, .int .i64 e], [.grow false 5 1 (.ints .u8 (N.LV s xs ac))])
    | _ => none
  | _, _ => none
def nQ (b : Bool) (t e : Int) : NQ := ⟨fun s xs ac => okL xs && (decide (ovrB s xs ac = b) && decide (ovrE s xs ac = 0)), fun s xs ac => okL xs && rgtI s xs ac, fun s xs ac => okL xs && (decide (tuV s xs ac = t) && decide (opI s xs ac = e)), fun s xs ac => (okL xs && dkB s) && decide (opI s xs ac = e)⟩
theorem kOver_ok (b : Bool) (t e : Int) : cOk 16 (kOver (nQ b t e) b) := by
  intro args hp c v nb hq hc
  unfold kOver at hq
  split at hq
  · split at hq
    · rename_i s hs
      cases hq
      rw [ofCrs_ok hs, List.append_nil]
      have hc2 : (okL _ && (decide (ovrB s _ _ = b) && decide (ovrE s _ _ = 0))) = true := hc
      simp only [Bool.and_eq_true, decide_eq_true_eq] at hc2
      obtain ⟨h1, h2, h3⟩ := hc2
      rw [← h3, ← h2]
      exact ⟨.of Try.func16 (by kernel_rfl), over16_fn _ _ h1⟩
    · cases hq
  · cases hq
theorem kRight_ok (b : Bool) (t e : Int) : cOk 17 (kRight (nQ b t e)) := by
  intro args hp c v nb hq hc
  unfold kRight at hq
  split at hq
  · split at hq
    · rename_i s hs
      cases hq
      rw [ofCrs_ok hs, List.append_nil]
      have hc2 : (okL _ && rgtI s _ _) = true := hc
      simp only [Bool.and_eq_true] at hc2
      refine ⟨.of Try.func17 (by kernel_rfl), ?_⟩
      rw [← hc2.2]
      exact right17_fn _ _ hc2.1
    · cases hq
  · cases hq
theorem kTurn_ok (b : Bool) (t e : Int) : cOk 14 (kTurn (nQ b t e) t e) := by
  intro args hp c v nb hq hc
  unfold kTurn at hq
  split at hq
  · split at hq
    · rename_i s hs
      cases hq
      rw [ofCrs_ok hs, List.append_nil]
      have hc2 : (okL _ && (decide (tuV s _ _ = t) && decide (opI s _ _ = e))) = true := hc
      simp only [Bool.and_eq_true, decide_eq_true_eq] at hc2
      obtain ⟨h1, h2, h3⟩ := hc2
      rw [← h3, ← h2]
      exact ⟨.of Try.func14 (by kernel_rfl), turn14_fn _ _ h1⟩
    · cases hq
  · cases hq
theorem kLegal_ok (b : Bool) (t e : Int) : cOk 18 (kLegal nF (nQ b t e) e) := by
  intro args hp c v nb hq hc
  unfold kLegal at hq
  split at hq
  · split at hq
    · rename_i s hs
      cases hq
      have hc2 : ((okL _ && dkB s) && decide (opI s _ _ = e)) = true := hc
      simp only [Bool.and_eq_true, decide_eq_true_eq] at hc2
      rw [ofCrs_ok hs]
      rw [← hc2.2]
      exact ⟨.of Try.func18 (by kernel_rfl), legal18_fn _ _ hc2.1.1 hc2.1.2⟩
    · cases hq
  · cases hq
def hTabQ (N : NL) (Q : NQ) (b : Bool) (t e : Int) : HTab := addH 16 (kOver Q b) (addH 17 (kRight Q) (addH 14 (kTurn Q t e) (addH 18 (kLegal N.F Q e) (hTabW N))))
theorem hTabQ_ok (b : Bool) (t e : Int) : HTabOk Try.prog (hTabQ nL (nQ b t e) b t e) := addH_ok (kOver_ok b t e) (addH_ok (kRight_ok b t e) (addH_ok (kTurn_ok b t e) (addH_ok (kLegal_ok b t e) hTabW_ok)))
noncomputable abbrev orcQ (N : NL) (Q : NQ) (b : Bool) (t e : Int) : Oracle := inl Try.prog ftab tabAw plainL 100 never domW (hOrcX nrW (hTabQ N Q b t e)) 20
theorem orcQ_ok (b : Bool) (t e : Int) : OracleOk Try.prog (orcQ nL (nQ b t e) b t e) := inl_ok (hOrcX_ok (hTabQ_ok b t e)) ftab_ok tabAw_ok plainL_ok mixed 20
noncomputable def saE (Q : NQ) (s : CD) (xs ac : List Int) (X : ANx) : ANx := bif Q.A16 s xs ac then bif Q.A17 s xs ac then bif Q.A18 s xs ac then bif Q.A14 s xs ac then X else none else none else none else none
end Go.Proofs.Ytojlmpcbplepcaa
