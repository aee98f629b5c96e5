/- Chapter 10: open, Over, Kind: their contracts; the oracle for Do, Accept, Refuse. -/
import Derived.Test.YtojlmpcbplepcaaDp
namespace Go.Proofs.Ytojlmpcbplepcaa
open Go Go.Eng
def ovrB (s : CD) (xs ac : List Int) : Bool := rgtI s xs ac && ovI s.d xs
def ovrE (s : CD) (xs ac : List Int) : Int := bif rgtI s xs ac then 0 else 100
def rlI (s : CD) (xs : List Int) (y : Int) : Int := (wr .u8 (wr .u8 (y + 4) - trnI s xs)).tmod 4
def kdO (s : CD) (xs : List Int) (x : Int) : Int := bif lgI s xs x then 0 else bif lwI xs x then 1 else bif (decide (x = 1) || decide (x = 2)) && !frI s.d xs x then 2 else 7
def kdI (s : CD) (xs ac : List Int) (y x : Int) : Int := bif !rgtI s xs ac || (decide (3 < y) || !decide (x ≤ 37)) then 0 else bif ovI s.d xs then 6 else
  bif decide (rlI s xs y = 1) then 3 else bif decide (rlI s xs y = 2) then 4 else bif decide (rlI s xs y = 3) then 5 else kdO s xs x
def keI (s : CD) (xs ac : List Int) (y x : Int) : Int := bif !rgtI s xs ac then 100 else bif decide (3 < y) then 2 else bif !decide (x ≤ 37) then 80 else 0
/-- The suits of a call. -/
def sdI (d : Int) : Int := bif decide (d = 0) then 1 else bif decide (d = 1) then 2 else bif decide (d = 2) then 4 else bif decide (d = 3) then 8 else 15
def suI (x : Int) : Int := bif isBid x then sdI (dnI x) else 0
def nC : NC := ⟨nJ, rgtI, trnI, lgI, mnI, dkB, lenOk, opI, kdI, keI, suI⟩
def gPartsN : List V → Option (Bool × V)
  | [.int .u8 c] => some (!isBid c, .tuple [.int .u8 0, .int .u8 0, .bool false])
  | _ => none
def tabX (d : Int) : PTab := addTab 55 (gPartsD d) emptyTab
theorem tabX_ok (d : Int) : PTabOk Try.prog (tabX d) := by
  refine addTab_ok ?_ emptyTab_ok
  intro args c v h hc
  unfold gPartsD at h
  split at h
  · cases h
    simp only [Bool.and_eq_true, decide_eq_true_eq] at hc
    have := parts_p (by assumption)
    unfold ptV at this
    rw [hc.1, hc.2] at this
    exact this
  · cases h
theorem tabXn_ok : PTabOk Try.prog (addTab 55 gPartsN emptyTab) := by
  refine addTab_ok ?_ emptyTab_ok
  intro args c v h hc
  unfold gPartsN at h
  split at h
  · cases h
    simp only [Bool.not_eq_true'] at hc
    have := parts_p (by assumption)
    unfold ptV at this
    rw [hc] at this
    exact this
  · cases h
theorem suits_evalN (x : Int) : evalP (addTab 55 gPartsN emptyTab) 72 Try.f72 [.int .u8 x] = bif !isBid x then some (.int .u8 0) else none := by kernel_rfl
theorem suits_eval (x : Int) : ∀ d : Nat, d < 5 → evalP (tabX (d : Int)) 72 Try.f72 [.int .u8 x] = bif isBid x && decide (dnI x = (d : Int)) then some (.int .u8 (sdI (d : Int))) else none
  | 0, _ => by kernel_rfl
  | 1, _ => by kernel_rfl
  | 2, _ => by kernel_rfl
  | 3, _ => by kernel_rfl
  | 4, _ => by kernel_rfl
  | n + 5, h => absurd h (by omega)
theorem suits_p (x : Int) : FnPure Try.prog 72 [.int .u8 x] (.int .u8 (suI x)) := by
  cases hb : isBid x with
  | false => exact pure_at tabXn_ok Try.func72 (by kernel_rfl) (by rw [suits_evalN, hb]; unfold suI; rw [hb]; rfl) rfl rfl
  | true =>
    have hd := dn_range hb
    obtain ⟨d, hd2⟩ : ∃ d : Nat, dnI x = d := ⟨(dnI x).toNat, by omega⟩
    exact pure_at (tabX_ok (d : Int)) Try.func72 (by kernel_rfl) (by rw [suits_eval x d (by omega), hb, hd2, decide_eq_true rfl]; unfold suI; rw [hb, hd2]; rfl) rfl rfl
def gSuits (SU : Int → Int) : List V → Option (Bool × V)
  | [.int .u8 x] => some (true, .int .u8 (SU x))
  | _ => none
theorem nC_ok : NCok nC := ⟨rfl, rfl, rfl, rfl, rfl, rfl, rfl⟩
theorem open48_fn (n1 n2 : Bool) {s : CD} {xs ac : List Int} (h : okL xs = true) : FnOK Try.prog 48 [.agg (s.vs (.gs 0) (.gs 1))] (crsH n1 n2 xs ac) (.int .i64 (opI s xs ac)) (crsH n1 n2 xs ac) := by
  refine evD_fn nC_ok Try.func48 (v := .int .i64 (opI s xs ac)) ?_ rfl n1 n2
  rw [open_eval, show nC.J.OK xs = true from h]
  unfold opI
  show (bif !rgtI s xs ac then some (V.int .i64 100) else bif ovI s.d xs then some (.int .i64 101) else some (.int .i64 0)) = _
  cases rgtI s xs ac <;> cases ovI s.d xs <;> rfl
theorem over16_fn (n1 n2 : Bool) {s : CD} {xs ac : List Int} (h : okL xs = true) : FnOK Try.prog 16 [.agg (s.vs (.gs 0) (.gs 1))] (crsH n1 n2 xs ac) (.tuple [.bool (ovrB s xs ac), .int .i64 (ovrE s xs ac)]) (crsH n1 n2 xs ac) := by
  refine evD_fn nC_ok Try.func16 (v := .tuple [.bool (ovrB s xs ac), .int .i64 (ovrE s xs ac)]) ?_ rfl n1 n2
  rw [over16_eval, show nC.J.OK xs = true from h]
  unfold ovrB ovrE
  show (bif !rgtI s xs ac then some (V.tuple [.bool false, .int .i64 100]) else some (.tuple [.bool (ovI s.d xs), .int .i64 0])) = _
  cases rgtI s xs ac <;> rfl
theorem kind11_fn (n1 n2 : Bool) {s : CD} {xs ac : List Int} {x : Int} (y : Int) (h : okL xs = true) (hd : dkB s = true) (hx : byB x = true) : FnOK Try.prog 11 [.agg (s.vs (.gs 0) (.gs 1)), .int .u8 y, .int .u8 x] (crsH n1 n2 xs ac) (.tuple [.int .u8 (kdI s xs ac y x), .int .i64 (keI s xs ac y x)]) (crsH n1 n2 xs ac) := by
  refine evD_fn nC_ok Try.func11 (v := .tuple [.int .u8 (kdI s xs ac y x), .int .i64 (keI s xs ac y x)]) ?_ rfl n1 n2
  rw [kind_eval, show nC.J.OK xs = true from h]
  unfold kdE
  rw [show nC.J.OK xs = true from h, show nC.DK s = true from hd, show nC.J.BY x = true from hx]
  unfold kdI keI kdO rlI kdR
  show (bif !rgtI s xs ac then some (V.tuple [.int .u8 0, .int .i64 100]) else bif decide (3 < y) then some (.tuple [.int .u8 0, .int .i64 2]) else bif !decide (x ≤ 37) then some (.tuple [.int .u8 0, .int .i64 80]) else
    bif ovI s.d xs then some (V.tuple [.int .u8 6, .int .i64 0]) else bif decide ((wr .u8 (wr .u8 (y + 4) - trnI s xs)).tmod 4 = 1) then some (V.tuple [.int .u8 3, .int .i64 0]) else bif decide ((wr .u8 (wr .u8 (y + 4) - trnI s xs)).tmod 4 = 2) then some (V.tuple [.int .u8 4, .int .i64 0]) else bif decide ((wr .u8 (wr .u8 (y + 4) - trnI s xs)).tmod 4 = 3) then some (V.tuple [.int .u8 5, .int .i64 0]) else
      bif lgI s xs x then some (V.tuple [.int .u8 0, .int .i64 0]) else bif lwI xs x then some (V.tuple [.int .u8 1, .int .i64 0]) else bif decide (x = 1) then (bif !frI s.d xs x then some (V.tuple [.int .u8 2, .int .i64 0]) else some (V.tuple [.int .u8 7, .int .i64 0])) else bif decide (x = 2) then (bif !frI s.d xs x then some (V.tuple [.int .u8 2, .int .i64 0]) else some (V.tuple [.int .u8 7, .int .i64 0])) else some (V.tuple [.int .u8 7, .int .i64 0])) = _
  generalize (wr .u8 (wr .u8 (y + 4) - trnI s xs)).tmod 4 = r
  cases rgtI s xs ac <;> cases decide (3 < y) <;> cases decide (x ≤ 37) <;> try rfl
  cases ovI s.d xs <;> try rfl
  cases decide (r = 1) <;> cases decide (r = 2) <;> cases decide (r = 3) <;> try rfl
  cases lgI s xs x <;> cases lwI xs x <;> cases decide (x = 1) <;> cases decide (x = 2) <;> cases frI s.d xs x <;> rfl
/-! ### the oracle -/
/-- Kind's answer with the kind and the error told. -/
def dKind (N : NC) : CH
  | [.agg l, .int .u8 y, .int .u8 x], [.rs _ 1 (.ints .u8 xs), .rs _ 1 (.ints .i64 ac)] => match ofCrs l with
    | some (s, .gs 0, .gs 1) => some (N.J.OK xs && (N.DK s && N.J.BY x), .tuple [.int .u8 (N.KV s xs ac y x), .int .i64 (N.KE s xs ac y x)], [])
    | _ => none
  | _, _ => none
def dKindL (N : NC) (k e : Int) : CH
  | [.agg l, .int .u8 y, .int .u8 x], [.rs _ 1 (.ints .u8 xs), .rs _ 1 (.ints .i64 ac)] => match ofCrs l with
    | some (s, .gs 0, .gs 1) => some (N.J.OK xs && (N.DK s && N.J.BY x) && decide (N.KV s xs ac y x = k ∧ N.KE s xs ac y x = e), .tuple [.int .u8 k, .int .i64 e], [])
    | _ => none
  | _, _ => none
theorem dOpen_ok : cOk 48 (dOpen nC) := by
  intro args hp c v nb hq hc
  unfold dOpen at hq
  split at hq
  · split at hq
    · rename_i s hs
      cases hq
      rw [ofCrs_ok hs, List.append_nil]
      exact ⟨.of Try.func48 (by kernel_rfl), open48_fn _ _ hc⟩
    · cases hq
  · cases hq
theorem dKind_ok : cOk 11 (dKind nC) := by
  intro args hp c v nb hq hc
  unfold dKind at hq
  split at hq
  · split at hq
    · rename_i s hs
      cases hq
      simp only [Bool.and_eq_true] at hc
      rw [ofCrs_ok hs, List.append_nil]
      exact ⟨.of Try.func11 (by kernel_rfl), kind11_fn _ _ _ hc.1 hc.2.1 hc.2.2⟩
    · cases hq
  · cases hq
theorem dKindL_ok (k e : Int) : cOk 11 (dKindL nC k e) := by
  intro args hp c v nb hq hc
  unfold dKindL at hq
  split at hq
  · split at hq
    · rename_i s hs
      cases hq
      simp only [Bool.and_eq_true, decide_eq_true_eq] at hc
      obtain ⟨⟨h1, h2, h3⟩, rfl, rfl⟩ := hc
      rw [ofCrs_ok hs, List.append_nil]
      exact ⟨.of Try.func11 (by kernel_rfl), kind11_fn _ _ _ h1 h2 h3⟩
    · cases hq
  · cases hq
/-- Whose turn it is, as a number that is told. -/
def dTurnL (N : NC) (t : Nat) : CH := jTurn N.J N.TR (t : Int)
theorem dTurnL_ok (t : Nat) : cOk 37 (dTurnL nC t) := fun _ _ _ _ _ hq hc => jTurn_ok hq hc
def hTabE (N : NC) (tr kd : CH) : HTab := addH 48 (dOpen N) (addH 11 kd (hTabD N tr emptyH))
theorem hTabE_ok {tr kd : CH} (ht : cOk 37 tr) (hk : cOk 11 kd) : HTabOk Try.prog (hTabE nC tr kd) := addH_ok dOpen_ok (addH_ok hk (hTabD_ok nC_ok ht emptyH_ok))
def domE : FuncId → Bool := fun f => Nat.beq f 48 || (Nat.beq f 11 || (isCp f || domD f))
def tabS (N : NC) : PTab := addTab 72 (gSuits N.SU) tabR
theorem tabS_ok : PTabOk Try.prog (tabS nC) := by
  refine addTab_ok ?_ tabR_ok
  intro args c v h _
  unfold gSuits at h
  split at h
  · cases h; exact suits_p _
  · cases h
noncomputable abbrev orcE10 (N : NC) (tr kd : CH) (T : PTab) (LL : FuncId → Loops) : Oracle := inl Try.prog ftab T LL 100 never domE (orElse isCp (hOrcP nrCp (hTabCp N.CK)) (hOrcX nrC (hTabE N tr kd))) 20
theorem orcE10_ok {tr kd : CH} (ht : cOk 37 tr) (hk : cOk 11 kd) {T : PTab} (hT : PTabOk Try.prog T) {LL : FuncId → Loops} (hL : ∀ f, loopsOk Try.prog (LL f)) : OracleOk Try.prog (orcE10 nC tr kd T LL) := inl_ok (orElse_ok (hOrcP_ok hTabCp_ok) (hOrcX_ok (hTabE_ok ht hk))) ftab_ok hT hL mixed 20
end Go.Proofs.Ytojlmpcbplepcaa
