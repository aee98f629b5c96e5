/- Texts merged: RW, RS2, RS3. -/
import Derived.Test.YtnhilofmafjdpaaDoorRU
import Derived.Test.YtnhilofmafjdpaaDoorKit3
import Derived.Test.YtnhilofmafjdpaaDoorRS
/- Chapter 9: all contracts for the law tells. -/
namespace Go.Proofs.YtnhilofmafjdpaaDoor
open Go Go.Eng
structure TN where
  KR : Int → List Int → Bool
  KP : List Int → List Int → Bool
  K : NK
def tN : TN := ⟨kR, kpC, nK⟩
def gT38 (T : TN) : List V → List Blk → Option (Bool × V × List Blk)
  | [.int .u8 d, .gs 0], [.rs _ 1 (.ints .u8 xs)] => some (T.KR d xs, .tuple [.int .i64 (T.K.N.A d xs), .int .i64 (T.K.N.E d xs)], [])
  | _, _ => none
def gT39 (T : TN) : List V → List Blk → Option (Bool × V × List Blk)
  | [.int .u8 d, .gs 0], [.rs _ 1 (.ints .u8 xs)] => some (T.KR d xs, .tuple [.bool (T.K.N.OB d xs), .int .i64 (T.K.N.OE d xs)], [])
  | _, _ => none
def gT40 (T : TN) : List V → List Blk → Option (Bool × V × List Blk)
  | [.int .u8 d, .gs 0], [.rs _ 1 (.ints .u8 xs)] => some (T.KR d xs, .tuple [.int .u8 (T.K.N.TV d xs), .int .i64 (T.K.N.TE d xs)], [])
  | _, _ => none
def gT41 (T : TN) : List V → List Blk → Option (Bool × V × List Blk)
  | [.int .u8 d, .gs 0], [.rs _ 1 (.ints .u8 xs)] => some (T.KR d xs, .tuple [.gs 1, .int .i64 (T.K.N.GE d xs)], [.grow false 5 1 (.ints .u8 (T.K.N.GV d xs))])
  | _, _ => none
def gT42 (T : TN) : List V → List Blk → Option (Bool × V × List Blk)
  | [.int .u8 d, .gs 0], [.rs _ 1 (.ints .u8 xs)] => some (T.KR d xs, .tuple [.agg [.int .u8 (T.K.N.CL d xs), .int .u8 (T.K.N.CD d xs), .int .u8 (T.K.N.CR d xs), .int .u8 (T.K.N.CS d xs)], .int .i64 (T.K.N.CE d xs)], [])
  | _, _ => none
def gT43 (T : TN) : List V → List Blk → Option (Bool × V × List Blk)
  | [.gs 0], [.rs _ 1 (.ints .u8 xs)] => some (T.K.N.KS xs, .tuple [.int .i64 (T.K.N.LI xs), .bool (T.K.N.LB xs)], [])
  | _, _ => none
def gT44 (T : TN) : List V → List Blk → Option (Bool × V × List Blk)
  | [.int .u8 d, .gs 0], [.rs _ 1 (.ints .u8 xs)] => some (T.KR d xs, .tuple [.gs 1, .int .i64 (T.K.N.BE d xs)], [.grow false 9 1 (.strs (T.K.N.BV d xs))])
  | _, _ => none
noncomputable def hTabT (T : TN) : HTab := addH 38 (gT38 T) (addH 39 (gT39 T) (addH 40 (gT40 T) (addH 41 (gT41 T) (addH 42 (gT42 T) (addH 43 (gT43 T) (addH 44 (gT44 T) (hTabK T.K)))))))
def domT : FuncId → Bool := fun f => (Nat.ble 38 f && Nat.ble f 46) || domK f
theorem hTabT_ok : HTabOk Tryd.prog (hTabT tN) := by
  refine addH_ok ?_ (addH_ok ?_ (addH_ok ?_ (addH_ok ?_ (addH_ok ?_ (addH_ok ?_ (addH_ok ?_ hTabK_ok))))))
  · intro args h c v nb hq hc
    unfold gT38 at hq
    split at hq
    · cases hq; exact ⟨.of Tryd.func38 (by kernel_rfl), by rw [List.append_nil]; exact rcheck_fn _ hc⟩
    · cases hq
  · intro args h c v nb hq hc
    unfold gT39 at hq
    split at hq
    · cases hq; exact ⟨.of Tryd.func39 (by kernel_rfl), by rw [List.append_nil]; exact rover_fn _ hc⟩
    · cases hq
  · intro args h c v nb hq hc
    unfold gT40 at hq
    split at hq
    · cases hq; exact ⟨.of Tryd.func40 (by kernel_rfl), by rw [List.append_nil]; exact rturn_fn _ hc⟩
    · cases hq
  · intro args h c v nb hq hc
    unfold gT41 at hq
    split at hq
    · cases hq; exact ⟨.of Tryd.func41 (by kernel_rfl), rlegal_fn _ hc⟩
    · cases hq
  · intro args h c v nb hq hc
    unfold gT42 at hq
    split at hq
    · cases hq; exact ⟨.of Tryd.func42 (by kernel_rfl), by rw [List.append_nil]; exact rcon_fn _ hc⟩
    · cases hq
  · intro args h c v nb hq hc
    unfold gT43 at hq
    split at hq
    · cases hq; exact ⟨.of Tryd.func43 (by kernel_rfl), by rw [List.append_nil]; exact rlast_fn _ hc⟩
    · cases hq
  · intro args h c v nb hq hc
    unfold gT44 at hq
    split at hq
    · cases hq; exact ⟨.of Tryd.func44 (by kernel_rfl), rtable_fn _ hc⟩
    · cases hq
def isKp : FuncId → Bool := fun f => Nat.beq f 46
def isOv : FuncId → Bool := fun f => Nat.beq f 45
def nrW : FuncId → Option Row := fun _ => some (.ints .u8 [])
noncomputable abbrev orcTl (T : TN) (P : PTab) (LL : FuncId → Loops) : Oracle := inl Tryd.prog ftab P LL 100 never domT (orElse isKp (wholeOrc nrW (hTabW T.KP)) (orElse isOv (overOrcT oTab) (hOrcN glA nrK (hTabT T)))) 20
theorem orcTl_ok {P : PTab} (hP : PTabOk Tryd.prog P) {LL : FuncId → Loops} (hL : ∀ f, loopsOk Tryd.prog (LL f)) : OracleOk Tryd.prog (orcTl tN P LL) := inl_ok (orElse_ok (wholeOrc_ok hTabW_ok) (orElse_ok (overOrcT_ok oTab_ok) (hOrcN_ok hTabT_ok))) ftab_ok hP hL mixed 20
end Go.Proofs.YtnhilofmafjdpaaDoor

/- Chapter 9: the law reads: all contracts. -/
namespace Go.Proofs.YtnhilofmafjdpaaDoor
open Go Go.Eng
structure RX where
  B : BN
  CT : List ByteArray → Bool
  KS : List ByteArray → List ByteArray → Bool
noncomputable def rX : RX := ⟨bN, fun tb => decide (tb.length ≤ 100000), ksC⟩
def gX54 (X : RX) : List V → List Blk → Option (Bool × V × List Blk)
  | [.gs 0], [.rs _ 1 (.strs tb)] => some (X.CT tb, .tuple [.int .u8 (X.B.VD tb), .gs 1, .int .i64 (X.B.VE tb)], [.grow false 5 1 (.ints .u8 (X.B.VL tb))])
  | _, _ => none
noncomputable def hTabX (X : RX) : HTab := addH 54 (gX54 X) (hTabB X.B)
theorem hTabX_ok : HTabOk Tryd.prog (hTabX rX) := by
  refine addH_ok ?_ hTabB_ok
  intro args h c v nb hq hc
  unfold gX54 at hq
  split at hq
  · cases hq; exact ⟨.of Tryd.func54 (by kernel_rfl), read54_fn _ (of_decide_eq_true hc)⟩
  · cases hq
def domX : FuncId → Bool := fun f => Nat.beq f 54 || (Nat.beq f 55 || (Nat.beq f 45 || domB f))
def isKs : FuncId → Bool := fun f => Nat.beq f 55
def nrWs : FuncId → Option Row := fun _ => some (.strs [])
def nrX : FuncId → Option Row := fun f => bif Nat.beq f 54 then some (.strs []) else nrR f
noncomputable abbrev orcX (X : RX) (P : PTab) (LL : FuncId → Loops) : Oracle := inl Tryd.prog ftab P LL 100 never domX (orElse isKs (wholeOrc nrWs (hTabWs X.KS)) (orElse isOv (overOrcT oTab) (hOrcN glB nrX (hTabX X)))) 20
theorem orcX_ok {P : PTab} (hP : PTabOk Tryd.prog P) {LL : FuncId → Loops} (hL : ∀ f, loopsOk Tryd.prog (LL f)) : OracleOk Tryd.prog (orcX rX P LL) := inl_ok (orElse_ok (wholeOrc_ok hTabWs_ok) (orElse_ok (overOrcT_ok oTab_ok) (hOrcN_ok hTabX_ok))) ftab_ok hP hL mixed 20
end Go.Proofs.YtnhilofmafjdpaaDoor

/- Chapter 9: the law reads is true for every table. -/
namespace Go.Proofs.YtnhilofmafjdpaaDoor
open Go Go.Eng
noncomputable def lentSE (MT : Int → Int → ByteArray) : Nat → Int → List ByteArray → (List ByteArray → Option V) → Option V
  | 0, _, l, Z => Z l
  | n + 1, i, l, Z => bif decide ((l ++ [MT 1 i]).length * 17 ≤ 70368744177664) then lentSE MT n (wr .i64 (i + 1)) (l ++ [MT 1 i]) Z else none
noncomputable def rdsZ (X : RX) (tb ws own : List ByteArray) (q : Nat) : Option V :=
  bif decide (0 + q ≤ ws.length) then bif pB (textsL = textsL) then bif X.CT tb then bif !decide (X.B.VD own = X.B.VD tb) then some (.bool false) else bif X.B.K.KL (X.B.VL own) then bif !X.B.K.EQ (X.B.VL own) (X.B.VL tb) then some (.bool false) else
  bif !decide (X.B.VE own = X.B.VE tb) then some (.bool false) else bif decide (0 + q ≤ ws.length) then bif pB (textsL = textsL) then bif decide ((X.B.VL own).length ≤ 70368744177664) then bif X.B.K.KL (X.B.VL own) then bif X.B.K.EQ (X.B.VL own) (X.B.VL tb) then
  bif X.KS ws tb && decide (q = tb.length) then some (.bool true) else none else some (.bool false) else none else none else none else none else none else none else none else none
noncomputable def rdsE (X : RX) (MT : Int → Int → ByteArray) (tb : List ByteArray) : Option V :=
  bif decide (0 ≤ (0 : Int) ∧ 0 ≤ wr .i64 (Int.ofNat tb.length + 12) ∧ wr .i64 (Int.ofNat tb.length + 12) * 17 ≤ 140737488355328) then bif decide (tb.length * 17 ≤ 70368744177664) then
  lentSE MT 12 0 tb (fun ws => bif decide (0 ≤ (0 : Int) ∧ 0 ≤ Int.ofNat tb.length ∧ Int.ofNat tb.length ≤ Int.ofNat ws.length) then rdsZ X tb ws (List.take ((Int.ofNat tb.length).toNat - 0) (List.drop 0 ws)) ((Int.ofNat tb.length).toNat - 0) else none) else none else none
theorem reads28_eval (X : RX) (MT : Int → Int → ByteArray) (nn : Bool) (tb : List ByteArray) : evalFn Tryd.prog (orcX X (tabMt MT) plainL) noLoops 100 28 Tryd.f28 [.gs 1] (gH ++ [.rs nn 1 (.strs tb)]) (fun v _ => some v) = rdsE X MT tb := by cases nn <;> kernel_rfl
def marksS (MT : Int → Int → ByteArray) : Nat → Nat → List ByteArray
  | 0, _ => []
  | n + 1, i => MT 1 (i : Int) :: marksS MT n (i + 1)
theorem lentSE_is {MT : Int → Int → ByteArray} {Z : List ByteArray → Option V} : ∀ (n i : Nat) (l : List ByteArray), l.length + n ≤ 1000000 → i + n ≤ 1000 → lentSE MT n (i : Int) l Z = Z (l ++ marksS MT n i)
  | 0, i, l, _, _ => by simp [lentSE, marksS]
  | n + 1, i, l, h1, h2 => by
    unfold lentSE
    rw [decide_eq_true (show (l ++ [MT 1 (i : Int)]).length * 17 ≤ 70368744177664 by rw [List.length_append, List.length_singleton]; omega), wr64 (by omega) (by omega), cond_true, show (i : Int) + 1 = ((i + 1 : Nat) : Int) by omega,
      lentSE_is n (i + 1) _ (by rw [List.length_append, List.length_singleton]; omega) (by omega)]
    simp [marksS]
theorem marksS_is (MT : Int → Int → ByteArray) : marksS MT 12 0 = marksT MT := rfl
theorem rvL_len (tb : List ByteArray) : (rvL tb).length ≤ 319 := by
  obtain ⟨r1, r2⟩ := rf_is tb
  obtain ⟨q1, q2, q3⟩ := rfGo_ok tb (4 * tb.length) 0 0 [] (by omega) rfl (by simp)
  cases h : rOk tb with
  | true => rw [← (r2 h).2]; exact q3
  | false => unfold rvL; rw [h]; simp
theorem reads_true (nn : Bool) {tb : List ByteArray} (hl : tb.length ≤ 100000) : evalFn Tryd.prog (orcX rX (tabMt mtV) plainL) noLoops 100 28 Tryd.f28 [.gs 1] (gH ++ [.rs nn 1 (.strs tb)]) (fun v _ => some v) = some (.bool true) := by
  have hof : Int.ofNat tb.length = (tb.length : Int) := rfl
  have hws : (tb ++ marksT mtV).length = tb.length + 12 := by rw [List.length_append]; rfl
  have hown : List.take tb.length (List.drop 0 (tb ++ marksT mtV)) = tb := by rw [List.drop_zero, List.take_append_of_le_length (Nat.le_refl _), List.take_length]
  have hVL := rvL_len tb
  have h1 : rX.B.K.KL (rX.B.VL tb) = true := decide_eq_true (show (rvL tb).length ≤ _ by omega)
  have h2 : rX.B.K.EQ (rX.B.VL tb) (rX.B.VL tb) = true := eqI_iff.2 rfl
  have h3 : rX.CT tb = true := decide_eq_true hl
  have h4 : rX.KS (tb ++ marksT mtV) tb = true := by show ksC _ _ = true; unfold ksC; rw [pB_iff.2 rfl, decide_eq_true (by omega)]; rfl
  rw [reads28_eval]
  unfold rdsE
  rw [hof, wr64 (n := (tb.length : Int) + 12) (by omega) (by omega), decide_eq_true (show 0 ≤ (0 : Int) ∧ 0 ≤ (tb.length : Int) + 12 ∧ ((tb.length : Int) + 12) * 17 ≤ 140737488355328 by omega), decide_eq_true (show tb.length * 17 ≤ 70368744177664 by omega)]
  simp only [cond_true]
  have hle := lentSE_is (MT := mtV) (Z := fun ws => bif decide (0 ≤ (0 : Int) ∧ 0 ≤ (tb.length : Int) ∧ (tb.length : Int) ≤ Int.ofNat ws.length) then rdsZ rX tb ws (List.take (((tb.length : Int)).toNat - 0) (List.drop 0 ws)) (((tb.length : Int)).toNat - 0) else none) 12 0 tb (by omega) (by omega)
  refine Eq.trans hle ?_
  rw [marksS_is]
  rw [decide_eq_true (show 0 ≤ (0 : Int) ∧ 0 ≤ (tb.length : Int) ∧ (tb.length : Int) ≤ Int.ofNat (tb ++ marksT mtV).length by refine ⟨by omega, by omega, ?_⟩; rw [hws]; show (tb.length : Int) ≤ ((tb.length + 12 : Nat) : Int); omega), show (((tb.length : Int)).toNat - 0) = tb.length from rfl, hown]
  simp only [cond_true]
  unfold rdsZ
  rw [decide_eq_true (show 0 + tb.length ≤ (tb ++ marksT mtV).length by omega), pB_iff.2 rfl, h1, h2, h3, h4, decide_eq_true (show (rX.B.VL tb).length ≤ 70368744177664 from Nat.le_trans hVL (by omega)), decide_eq_true (rfl : tb.length = tb.length), decide_eq_true (rfl : rX.B.VD tb = rX.B.VD tb), decide_eq_true (rfl : rX.B.VE tb = rX.B.VE tb)]
  rfl
theorem reads_fn (nn : Bool) {tb : List ByteArray} (hl : tb.length ≤ 100000) : FnOK Tryd.prog 28 [.gs 1] (gH ++ [.rs nn 1 (.strs tb)]) (.bool true) (gH ++ [.rs nn 1 (.strs tb)]) := by
  obtain ⟨v1, e1, hk, hok⟩ := evalFn_ok (orcX_ok tabMt_ok plainL_ok) mixed Tryd.func28 noLoops_ok (reads_true nn hl)
  cases hk
  exact hok.plain rfl gR_ro
end Go.Proofs.YtnhilofmafjdpaaDoor
