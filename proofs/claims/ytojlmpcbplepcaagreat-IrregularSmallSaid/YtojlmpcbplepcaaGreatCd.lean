/- Texts merged: Cd, Do. -/
import Derived.Test.YtojlmpcbplepcaaGreatLg
/- Chapter 10: open, Over, Kind: their contracts; the oracle for Do, Accept, Refuse. -/
namespace Go.Proofs.YtojlmpcbplepcaaGreat
open Go Go.Eng
def ovrB (s : CD) (xs ac : List Int) : Bool := rgtI s xs ac && ovI s.d xs
def ovrE (s : CD) (xs ac : List Int) : Int := bif rgtI s xs ac then 0 else 100
def rlI (s : CD) (xs : List Int) (y : Int) : Int := (wr .u8 (wr .u8 (y + 4) - trnI s xs)).tmod 4
def kdO (s : CD) (xs : List Int) (x : Int) : Int := bif lgI s xs x then 0 else bif lwI xs x then 1 else bif (decide (x = 1) || decide (x = 2)) && !frI s.d xs x then 2 else 7
def kdI (s : CD) (xs ac : List Int) (y x : Int) : Int := bif !rgtI s xs ac || (decide (3 < y) || !decide (x ≤ 37)) then 0 else bif ovI s.d xs then 6 else
  bif decide (rlI s xs y = 1) then 3 else bif decide (rlI s xs y = 2) then 4 else bif decide (rlI s xs y = 3) then 5 else kdO s xs x
def keI (s : CD) (xs ac : List Int) (y x : Int) : Int := bif !rgtI s xs ac then 100 else bif decide (3 < y) then 2 else bif !decide (x ≤ 37) then 80 else 0
def sdI (d : Int) : Int := bif decide (d = 0) then 1 else bif decide (d = 1) then 2 else bif decide (d = 2) then 4 else bif decide (d = 3) then 8 else 15
def suI (x : Int) : Int := bif isBid x then sdI (dnI x) else 0
def nC : NC := ⟨nJ, rgtI, trnI, lgI, mnI, dkB, lenOk, opI, kdI, keI, suI⟩
def gPartsN : List V → Option (Bool × V)
  | [.int .u8 c] => some (!isBid c, .tuple [.int .u8 0, .int .u8 0, .bool false])
  | _ => none
def tabX (d : Int) : PTab := addTab 66 (gPartsD d) emptyTab
theorem tabX_ok (d : Int) : PTabOk Tryz.prog (tabX d) := by
  refine addTab_ok ?_ emptyTab_ok
  intro args c v h hc
  unfold gPartsD at h
  split at h
  · cases h
    simp only [Bool.and_eq_true, decide_eq_true_eq] at hc
    have := parts_p (by assumption)
    unfold ptV at this
    rw [hc.1, hc.2] at this
    exact this
  · cases h
theorem tabXn_ok : PTabOk Tryz.prog (addTab 66 gPartsN emptyTab) := by
  refine addTab_ok ?_ emptyTab_ok
  intro args c v h hc
  unfold gPartsN at h
  split at h
  · cases h
    simp only [Bool.not_eq_true'] at hc
    have := parts_p (by assumption)
    unfold ptV at this
    rw [hc] at this
    exact this
  · cases h
theorem suits_evalN (x : Int) : evalP (addTab 66 gPartsN emptyTab) 99 Tryz.f99 [.int .u8 x] = bif !isBid x then some (.int .u8 0) else none := by kernel_rfl
theorem suits_eval (x : Int) : ∀ d : Nat, d < 5 → evalP (tabX (d : Int)) 99 Tryz.f99 [.int .u8 x] = bif isBid x && decide (dnI x = (d : Int)) then some (.int .u8 (sdI (d : Int))) else none
  | 0, _ => by kernel_rfl
  | 1, _ => by kernel_rfl
  | 2, _ => by kernel_rfl
  | 3, _ => by kernel_rfl
  | 4, _ => by kernel_rfl
  | n + 5, h => absurd h (by omega)
theorem suits_p (x : Int) : FnPure Tryz.prog 99 [.int .u8 x] (.int .u8 (suI x)) := by
  cases hb : isBid x with
  | false => exact pure_at tabXn_ok Tryz.func99 (by kernel_rfl) (by rw [suits_evalN, hb]; unfold suI; rw [hb]; rfl) rfl rfl
  | true =>
    have hd := dn_range hb
    obtain ⟨d, hd2⟩ : ∃ d : Nat, dnI x = d := ⟨(dnI x).toNat, by omega⟩
    exact pure_at (tabX_ok (d : Int)) Tryz.func99 (by kernel_rfl) (by rw [suits_eval x d (by omega), hb, hd2, decide_eq_true rfl]; unfold suI; rw [hb, hd2]; rfl) rfl rfl
def gSuits (SU : Int → Int) : List V → Option (Bool × V)
  | [.int .u8 x] => some (true, .int .u8 (SU x))
  | _ => none
theorem nC_ok : NCok nC := ⟨rfl, rfl, rfl, rfl, rfl, rfl, rfl⟩
theorem open48_fn (n1 n2 : Bool) {s : CD} {xs ac : List Int} (h : okL xs = true) : FnOK Tryz.prog 54 [.agg (s.vs (.gs 0) (.gs 1))] (crsH n1 n2 xs ac) (.int .i64 (opI s xs ac)) (crsH n1 n2 xs ac) := by
  refine evD_fn nC_ok Tryz.func54 (v := .int .i64 (opI s xs ac)) ?_ rfl n1 n2
  rw [open_eval, show nC.J.OK xs = true from h]
  unfold opI
  show (bif !rgtI s xs ac then some (V.int .i64 100) else bif ovI s.d xs then some (.int .i64 101) else some (.int .i64 0)) = _
  cases rgtI s xs ac <;> cases ovI s.d xs <;> rfl
theorem over16_fn (n1 n2 : Bool) {s : CD} {xs ac : List Int} (h : okL xs = true) : FnOK Tryz.prog 12 [.agg (s.vs (.gs 0) (.gs 1))] (crsH n1 n2 xs ac) (.tuple [.bool (ovrB s xs ac), .int .i64 (ovrE s xs ac)]) (crsH n1 n2 xs ac) := by
  refine evD_fn nC_ok Tryz.func12 (v := .tuple [.bool (ovrB s xs ac), .int .i64 (ovrE s xs ac)]) ?_ rfl n1 n2
  rw [over16_eval, show nC.J.OK xs = true from h]
  unfold ovrB ovrE
  show (bif !rgtI s xs ac then some (V.tuple [.bool false, .int .i64 100]) else some (.tuple [.bool (ovI s.d xs), .int .i64 0])) = _
  cases rgtI s xs ac <;> rfl
theorem kind11_fn (n1 n2 : Bool) {s : CD} {xs ac : List Int} {x : Int} (y : Int) (h : okL xs = true) (hd : dkB s = true) (hx : byB x = true) : FnOK Tryz.prog 18 [.agg (s.vs (.gs 0) (.gs 1)), .int .u8 y, .int .u8 x] (crsH n1 n2 xs ac) (.tuple [.int .u8 (kdI s xs ac y x), .int .i64 (keI s xs ac y x)]) (crsH n1 n2 xs ac) := by
  refine evD_fn nC_ok Tryz.func18 (v := .tuple [.int .u8 (kdI s xs ac y x), .int .i64 (keI s xs ac y x)]) ?_ rfl n1 n2
  rw [kind_eval, show nC.J.OK xs = true from h]
  unfold kdE
  rw [show nC.J.OK xs = true from h, show nC.DK s = true from hd, show nC.J.BY x = true from hx]
  unfold kdI keI kdO rlI kdR
  show (bif !rgtI s xs ac then some (V.tuple [.int .u8 0, .int .i64 100]) else bif decide (3 < y) then some (.tuple [.int .u8 0, .int .i64 2]) else bif !decide (x ≤ 37) then some (.tuple [.int .u8 0, .int .i64 80]) else
    bif ovI s.d xs then some (V.tuple [.int .u8 6, .int .i64 0]) else bif decide ((wr .u8 (wr .u8 (y + 4) - trnI s xs)).tmod 4 = 1) then some (V.tuple [.int .u8 3, .int .i64 0]) else bif decide ((wr .u8 (wr .u8 (y + 4) - trnI s xs)).tmod 4 = 2) then some (V.tuple [.int .u8 4, .int .i64 0]) else bif decide ((wr .u8 (wr .u8 (y + 4) - trnI s xs)).tmod 4 = 3) then some (V.tuple [.int .u8 5, .int .i64 0]) else
      bif lgI s xs x then some (V.tuple [.int .u8 0, .int .i64 0]) else bif lwI xs x then some (V.tuple [.int .u8 1, .int .i64 0]) else bif decide (x = 1) then (bif !frI s.d xs x then some (V.tuple [.int .u8 2, .int .i64 0]) else some (V.tuple [.int .u8 7, .int .i64 0])) else bif decide (x = 2) then (bif !frI s.d xs x then some (V.tuple [.int .u8 2, .int .i64 0]) else some (V.tuple [.int .u8 7, .int .i64 0])) else some (V.tuple [.int .u8 7, .int .i64 0])) = _
  generalize (wr .u8 (wr .u8 (y + 4) - trnI s xs)).tmod 4 = r
  cases rgtI s xs ac <;> cases decide (3 < y) <;> cases decide (x ≤ 37) <;> try rfl
  cases ovI s.d xs <;> try rfl
  cases decide (r = 1) <;> cases decide (r = 2) <;> cases decide (r = 3) <;> try rfl
  cases lgI s xs x <;> cases lwI xs x <;> cases decide (x = 1) <;> cases decide (x = 2) <;> cases frI s.d xs x <;> rfl
def dKind (N : NC) : CH
  | [.agg l, .int .u8 y, .int .u8 x], [.rs _ 1 (.ints .u8 xs), .rs _ 1 (.ints .i64 ac)] => match ofCrs l with
    | some (s, .gs 0, .gs 1) => some (N.J.OK xs && (N.DK s && N.J.BY x), .tuple [.int .u8 (N.KV s xs ac y x), .int .i64 (N.KE s xs ac y x)], [])
    | _ => none
  | _, _ => none
def dKindL (N : NC) (k e : Int) : CH
  | [.agg l, .int .u8 y, .int .u8 x], [.rs _ 1 (.ints .u8 xs), .rs _ 1 (.ints .i64 ac)] => match ofCrs l with
    | some (s, .gs 0, .gs 1) => some (N.J.OK xs && (N.DK s && N.J.BY x) && decide (N.KV s xs ac y x = k ∧ N.KE s xs ac y x = e), .tuple [.int .u8 k, .int .i64 e], [])
    | _ => none
  | _, _ => none
theorem dOpen_ok : cOk 54 (dOpen nC) := by
  intro args hp c v nb hq hc
  unfold dOpen at hq
  split at hq
  · split at hq
    · rename_i s hs
      cases hq
      rw [ofCrs_ok hs, List.append_nil]
      exact ⟨.of Tryz.func54 (by kernel_rfl), open48_fn _ _ hc⟩
    · cases hq
  · cases hq
theorem dKind_ok : cOk 18 (dKind nC) := by
  intro args hp c v nb hq hc
  unfold dKind at hq
  split at hq
  · split at hq
    · rename_i s hs
      cases hq
      simp only [Bool.and_eq_true] at hc
      rw [ofCrs_ok hs, List.append_nil]
      exact ⟨.of Tryz.func18 (by kernel_rfl), kind11_fn _ _ _ hc.1 hc.2.1 hc.2.2⟩
    · cases hq
  · cases hq
theorem dKindL_ok (k e : Int) : cOk 18 (dKindL nC k e) := by
  intro args hp c v nb hq hc
  unfold dKindL at hq
  split at hq
  · split at hq
    · rename_i s hs
      cases hq
      simp only [Bool.and_eq_true, decide_eq_true_eq] at hc
      obtain ⟨⟨h1, h2, h3⟩, rfl, rfl⟩ := hc
      rw [ofCrs_ok hs, List.append_nil]
      exact ⟨.of Tryz.func18 (by kernel_rfl), kind11_fn _ _ _ h1 h2 h3⟩
    · cases hq
  · cases hq
def dTurnL (N : NC) (t : Nat) : CH := jTurn N.J N.TR (t : Int)
theorem dTurnL_ok (t : Nat) : cOk 55 (dTurnL nC t) := fun _ _ _ _ _ hq hc => jTurn_ok hq hc
def hTabE (N : NC) (tr kd : CH) : HTab := addH 54 (dOpen N) (addH 18 kd (hTabD N tr emptyH))
theorem hTabE_ok {tr kd : CH} (ht : cOk 55 tr) (hk : cOk 18 kd) : HTabOk Tryz.prog (hTabE nC tr kd) := addH_ok dOpen_ok (addH_ok hk (hTabD_ok nC_ok ht emptyH_ok))
def domE : FuncId → Bool := fun f => Nat.beq f 54 || (Nat.beq f 18 || (isCp f || domD f))
def tabS (N : NC) : PTab := addTab 99 (gSuits N.SU) tabR
theorem tabS_ok : PTabOk Tryz.prog (tabS nC) := by
  refine addTab_ok ?_ tabR_ok
  intro args c v h _
  unfold gSuits at h
  split at h
  · cases h; exact suits_p _
  · cases h
noncomputable abbrev orcE10 (N : NC) (tr kd : CH) (T : PTab) (LL : FuncId → Loops) : Oracle := inl Tryz.prog ftab T LL 100 never domE (orElse isCp (hOrcP nrCp (hTabCp N.CK)) (hOrcX nrC (hTabE N tr kd))) 20
theorem orcE10_ok {tr kd : CH} (ht : cOk 55 tr) (hk : cOk 18 kd) {T : PTab} (hT : PTabOk Tryz.prog T) {LL : FuncId → Loops} (hL : ∀ f, loopsOk Tryz.prog (LL f)) : OracleOk Tryz.prog (orcE10 nC tr kd T LL) := inl_ok (orElse_ok (hOrcP_ok hTabCp_ok) (hOrcX_ok (hTabE_ok ht hk))) ftab_ok hT hL mixed 20
end Go.Proofs.YtojlmpcbplepcaaGreat

/- Chapter 10: Do. -/
namespace Go.Proofs.YtojlmpcbplepcaaGreat
open Go Go.Eng
def q0 : Q4 := ⟨0, 0, 0, 0⟩
def c0 : CD := ⟨0, q0, q0, 0, q0⟩
def ansP (s : CD) (e : Int) (xs ac ys bc : List Int) : List PV := s.pv [.i e, .l xs, .l ac, .l ys, .l bc]
abbrev AN := Option (List PV × List (Code × Code))
def mate (k : Nat) : Nat := (k + 2) % 4
def CD.setP (s : CD) (v : Int) (k : Nat) : CD := { s with p := s.p.set v k }
def CD.setA (s : CD) (v : Int) (k : Nat) : CD := { s with a := s.a.set v k }
def CD.setF (s : CD) (v : Int) (k : Nat) : CD := { s with f := s.f.set v k }
def CD.setH (s : CD) (v : Int) : CD := { s with h := v }
def silI (SU : Int → Int) (s : CD) (k j : Nat) (x : Int) : CD := (s.setP (-1) k).setF (bitsI .or .u8 (s.f.at j) (SU x)) j
noncomputable def doB (N : NC) (k : Nat) (xs ac : List Int) (x h : Int) (s : CD) : AN := bif decide (0 < h) then (bif N.J.OK xs then bif !N.MN h xs x then some (ansP ((silI N.SU (s.setA 0 k) (mate k) (mate k) (wr .u8 (h - 1))).setH 0) 0 xs ac (xs ++ [x]) ac, []) else some (ansP ((s.setA 0 k).setH 0) 0 xs ac (xs ++ [x]) ac, []) else none) else some (ansP ((s.setA 0 k).setH 0) 0 xs ac (xs ++ [x]) ac, [])
noncomputable def doA (N : NC) (k : Nat) (xs ac : List Int) (x a h : Int) (s : CD) : AN := bif decide (0 < a) then (bif N.J.OK xs then bif !N.J.PS xs then (bif decide (s.p.at (mate k) = 0) then doB N k xs ac x h (s.setP 1 (mate k)) else doB N k xs ac x h s) else doB N k xs ac x h s else none) else doB N k xs ac x h s
noncomputable def doE (N : NC) (k : Nat) (xs ac : List Int) (s : CD) (x : Int) : AN :=
  bif N.J.OK xs then bif !decide (N.OP s xs ac = 0) then some (ansP c0 (N.OP s xs ac) xs ac [] [], []) else bif N.J.OK xs && (N.DK s && N.J.BY x) then bif !N.LG s xs x then some (ansP c0 103 xs ac [] [], []) else
    bif decide (400 ≤ Int.ofNat xs.length) then some (ansP c0 5 xs ac [] [], []) else bif N.J.OK xs && decide (N.TR s xs = (k : Int)) then bif N.CK xs then bif N.CK ac then bif decide ((xs ++ [x]).length * 2 ≤ 70368744177664) then
      bif decide (0 < s.p.at k) then doA N k xs ac x (s.a.at k) s.h (s.setP (wr .i64 (s.p.at k - 1)) k) else doA N k xs ac x (s.a.at k) s.h s else none else none else none else none else none else none
theorem do_eval (N : NC) (xs ac : List Int) (s : CD) (x : Int) : ∀ k : Nat, k < 4 → evalFn Tryz.prog (orcE10 N (dTurnL N k) (dKind N) (tabS N) plainL) noLoops 100 28 Tryz.f28 [.agg (s.vs (.gs 0) (.gs 1)), .int .u8 x] (crsH false false xs ac) (ansT (crsA false false [.int .i64]) 2) = doE N k xs ac s x
  | 0, _ => by kernel_rfl
  | 1, _ => by kernel_rfl
  | 2, _ => by kernel_rfl
  | 3, _ => by kernel_rfl
  | n + 4, h => absurd h (by omega)
def doS (k : Nat) (xs : List Int) (s : CD) (x : Int) : CD :=
  let s1 := bif decide (0 < s.p.at k) then s.setP (wr .i64 (s.p.at k - 1)) k else s
  let s2 := bif decide (0 < s.a.at k) && (!psI xs && decide (s1.p.at (mate k) = 0)) then s1.setP 1 (mate k) else s1
  let s3 := s2.setA 0 k
  (bif decide (0 < s.h) && !mnI s.h xs x then silI suI s3 (mate k) (mate k) (wr .u8 (s.h - 1)) else s3).setH 0
def doX (s : CD) (xs ac : List Int) (x : Int) : Int := bif !decide (opI s xs ac = 0) then opI s xs ac else bif !lgI s xs x then 103 else bif decide (400 ≤ xs.length) then 5 else 0
def doC (s : CD) (xs ac : List Int) (x : Int) : CD := bif decide (doX s xs ac x = 0) then doS (tN s xs) xs s x else c0
def doL (s : CD) (xs ac : List Int) (x : Int) : List Int := bif decide (doX s xs ac x = 0) then xs ++ [x] else []
def doK (s : CD) (xs ac : List Int) (x : Int) : List Int := bif decide (doX s xs ac x = 0) then ac else []
theorem doE_is {k : Nat} {s : CD} {xs ac : List Int} {x : Int} (h : okL xs = true) (hc : lenOk ac = true) (hd : dkB s = true) (hx : byB x = true) (hk : tN s xs = k) :
    doE nC k xs ac s x = some (ansP (doC s xs ac x) (doX s xs ac x) xs ac (doL s xs ac x) (doK s xs ac x), []) := by
  have hl := (okL_iff.1 h).1
  obtain ⟨ht, _⟩ := tN_lt s xs h (of_decide_eq_true hd)
  rw [hk] at ht
  have z1 : Int.ofNat xs.length = (xs.length : Int) := rfl
  have zd : decide (400 ≤ Int.ofNat xs.length) = decide (400 ≤ xs.length) := by
    rw [z1]
    by_cases hq : 400 ≤ xs.length
    · rw [decide_eq_true hq, decide_eq_true (by omega)]
    · rw [decide_eq_false hq, decide_eq_false (by omega)]
  unfold doE doC doL doK doX
  rw [show nC.J.OK xs = true from h, show nC.DK s = true from hd, show nC.J.BY x = true from hx, show nC.CK xs = true from decide_eq_true (by omega), show nC.CK ac = true from hc, zd, decide_eq_true (show (xs ++ [x]).length * 2 ≤ 70368744177664 by simp; omega),
    show nC.TR s xs = trnI s xs from rfl, ht, decide_eq_true rfl]
  show (bif !decide (opI s xs ac = 0) then some (ansP c0 (opI s xs ac) xs ac [] [], []) else bif !lgI s xs x then some (ansP c0 103 xs ac [] [], []) else bif decide (400 ≤ xs.length) then some (ansP c0 5 xs ac [] [], []) else
    bif decide (0 < s.p.at k) then doA nC k xs ac x (s.a.at k) s.h (s.setP (wr .i64 (s.p.at k - 1)) k) else doA nC k xs ac x (s.a.at k) s.h s) = _
  by_cases ho : opI s xs ac = 0
  · rw [decide_eq_true ho]
    cases hg : lgI s xs x with
    | false => rfl
    | true =>
      cases hq : decide (400 ≤ xs.length) with
      | true => rfl
      | false =>
        show (bif decide (0 < s.p.at k) then doA nC k xs ac x (s.a.at k) s.h (s.setP (wr .i64 (s.p.at k - 1)) k) else doA nC k xs ac x (s.a.at k) s.h s) = some (ansP (doS (tN s xs) xs s x) 0 xs ac (xs ++ [x]) ac, [])
        rw [hk]
        have hB : ∀ s2 : CD, doB nC k xs ac x s.h s2 = some (ansP ((bif decide (0 < s.h) && !mnI s.h xs x then silI suI (s2.setA 0 k) (mate k) (mate k) (wr .u8 (s.h - 1)) else s2.setA 0 k).setH 0) 0 xs ac (xs ++ [x]) ac, []) := fun s2 => by
          unfold doB
          rw [show nC.J.OK xs = true from h, show nC.MN s.h xs x = mnI s.h xs x from rfl, show nC.SU = suI from rfl]
          cases decide (0 < s.h) <;> cases mnI s.h xs x <;> rfl
        have hA : ∀ s1 : CD, doA nC k xs ac x (s.a.at k) s.h s1 = some (ansP ((bif decide (0 < s.h) && !mnI s.h xs x then silI suI ((bif decide (0 < s.a.at k) && (!psI xs && decide (s1.p.at (mate k) = 0)) then s1.setP 1 (mate k) else s1).setA 0 k) (mate k) (mate k) (wr .u8 (s.h - 1)) else (bif decide (0 < s.a.at k) && (!psI xs && decide (s1.p.at (mate k) = 0)) then s1.setP 1 (mate k) else s1).setA 0 k).setH 0) 0 xs ac (xs ++ [x]) ac, []) := fun s1 => by
          unfold doA
          rw [show nC.J.OK xs = true from h, show nC.J.PS xs = psI xs from rfl, hB, hB]
          cases decide (0 < s.a.at k) <;> cases psI xs <;> cases decide (s1.p.at (mate k) = 0) <;> rfl
        rw [hA, hA]
        unfold doS
        cases decide (0 < s.p.at k) <;> rfl
  · rw [decide_eq_false ho]
    show some (ansP c0 (opI s xs ac) xs ac [] [], []) = some (ansP (bif decide (opI s xs ac = 0) then _ else c0) (opI s xs ac) xs ac (bif decide (opI s xs ac = 0) then _ else []) (bif decide (opI s xs ac = 0) then _ else []), [])
    rw [decide_eq_false ho]; rfl
def crsNb (ys bc : List Int) : List Blk := [.grow false 5 1 (.ints .u8 ys), .grow false 3 1 (.ints .i64 bc)]
theorem codesNil : codesOk [] := fun _ h => by cases h
theorem do15_fn (n1 n2 : Bool) {s : CD} {xs ac : List Int} {x : Int} (h : okL xs = true) (hc : lenOk ac = true) (hd : dkB s = true) (hx : byB x = true) :
    FnOK Tryz.prog 28 [.agg (s.vs (.gs 0) (.gs 1)), .int .u8 x] (crsH n1 n2 xs ac) (.tuple [.agg ((doC s xs ac x).vs (.gs 2) (.gs 3)), .int .i64 (doX s xs ac x)]) (crsH n1 n2 xs ac ++ crsNb (doL s xs ac x) (doK s xs ac x)) := by
  obtain ⟨_, hk⟩ := tN_lt s xs h (of_decide_eq_true hd)
  have key := do_eval nC xs ac s x (tN s xs) hk
  rw [doE_is h hc hd hx rfl] at key
  exact fn_crs (fn_ans (T := crsA false false [.int .i64]) (orcE10_ok (dTurnL_ok _) dKind_ok tabS_ok plainL_ok) mixed Tryz.func28 noLoops_ok (by kernel_rfl) key codesNil rfl)
end Go.Proofs.YtojlmpcbplepcaaGreat
