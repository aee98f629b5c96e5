/- Texts merged: RV2, RW, Tel. -/
import Derived.Test.YtnhilofmafjdpaaDoorRU
import Derived.Test.YtnhilofmafjdpaaDoorKit3
/- Chapter 9: KeptBytes' contract over a whole slice. -/
namespace Go.Proofs.YtnhilofmafjdpaaDoor
open Go Go.Eng
theorem kept_eval (C : List Int → List Int → Bool) (n1 n2 : Bool) (len : Nat) (ws xs : List Int) : evalFn Tryd.prog (orcE (tabMb mbV) plainL) (kpLs C n1 n2) 100 46 Tryd.f46 [.view 1 0 1 len, .gs 2] [.ro (.vs []), .rs n1 1 (.ints .u8 ws), .rs n2 1 (.ints .u8 xs)] (fun v _ => some v) =
    bif !decide (Int.ofNat len = Int.ofNat xs.length) then some (.bool false) else bif decide (0 + len ≤ ws.length) then bif decide (0 ≤ (0 : Int) ∧ 0 ≤ wr .i64 (Int.ofNat xs.length + 12) ∧ wr .i64 (Int.ofNat xs.length + 12) ≤ Int.ofNat (ws.length - 0)) then
      cond (codesB [(kpLp, kpLp)]) (bif decide (0 = 0 ∧ (wr .i64 (Int.ofNat xs.length + 12)).toNat - 0 = ws.length ∧ (0 : Int) = 0) && C ws xs then some (.bool true) else none) none else none else none := by cases n1 <;> cases n2 <;> kernel_rfl
theorem kept_fn (n1 n2 : Bool) {ws xs : List Int} {len : Nat} (h : kpC ws xs = true) (hl : len = xs.length) : FnOK Tryd.prog 46 [.view 1 0 1 len, .gs 2] [.ro (.vs []), .rs n1 1 (.ints .u8 ws), .rs n2 1 (.ints .u8 xs)] (.bool true) [.ro (.vs []), .rs n1 1 (.ints .u8 ws), .rs n2 1 (.ints .u8 xs)] := by
  have h' := h
  simp only [kpC, Bool.and_eq_true, decide_eq_true_eq] at h'
  obtain ⟨hw, hx⟩ := h'
  have hwl : ws.length = xs.length + 12 := by rw [hw, List.length_append]; rfl
  have hox : Int.ofNat xs.length = (xs.length : Int) := rfl
  have hv := kept_eval kpC n1 n2 len ws xs
  rw [hl, decide_eq_true (rfl : Int.ofNat xs.length = Int.ofNat xs.length), hox, wr64 (n := (xs.length : Int) + 12) (by omega) (by omega), decide_eq_true (show 0 + xs.length ≤ ws.length by omega),
    decide_eq_true (show 0 ≤ (0 : Int) ∧ 0 ≤ (xs.length : Int) + 12 ∧ (xs.length : Int) + 12 ≤ Int.ofNat (ws.length - 0) by refine ⟨by omega, by omega, ?_⟩; show _ ≤ ((ws.length - 0 : Nat) : Int); omega), lpCd,
    decide_eq_true (show 0 = 0 ∧ ((xs.length : Int) + 12).toNat - 0 = ws.length ∧ (0 : Int) = 0 by refine ⟨rfl, ?_, rfl⟩; omega), h] at hv
  rw [hl]
  obtain ⟨v1, e1, hk, hok⟩ := evalFn_ok (orcE_ok tabMb_ok plainL_ok) mixed Tryd.func46 (kpLs_ok n1 n2) hv
  cases hk
  refine hok.plain rfl ?_
  intro b blk hb
  match b, hb with
  | 0, hb => cases hb; rfl
  | 1, hb => cases hb; rfl
  | 2, hb => cases hb; rfl
  | _ + 3, hb => simp at hb
def gKept (C : List Int → List Int → Bool) : List V → List Blk → Option (Bool × V × List Blk)
  | [.view 1 0 1 len, .gs 2], [.ro (.vs []), .rs _ 1 (.ints .u8 ws), .rs _ 1 (.ints .u8 xs)] => some (C ws xs && decide (len = xs.length), .bool true, [])
  | _, _ => none
def hTabW (C : List Int → List Int → Bool) : HTab := addH 46 (gKept C) emptyH
theorem hTabW_ok : HTabOk Tryd.prog (hTabW kpC) := by
  refine addH_ok ?_ emptyH_ok
  intro args h c v nb hq hc
  unfold gKept at hq
  split at hq
  · cases hq
    simp only [Bool.and_eq_true, decide_eq_true_eq] at hc
    exact ⟨.of Tryd.func46 (by kernel_rfl), by rw [List.append_nil]; exact kept_fn _ _ hc.1 hc.2⟩
  · cases hq
end Go.Proofs.YtnhilofmafjdpaaDoor

/- Chapter 9: all contracts for the law tells. -/
namespace Go.Proofs.YtnhilofmafjdpaaDoor
open Go Go.Eng
structure TN where
  KR : Int → List Int → Bool
  KP : List Int → List Int → Bool
  K : NK
def tN : TN := ⟨kR, kpC, nK⟩
def gT38 (T : TN) : List V → List Blk → Option (Bool × V × List Blk)
  | [.int .u8 d, .gs 0], [.rs _ 1 (.ints .u8 xs)] => some (T.KR d xs, .tuple [.int .i64 (T.K.N.A d xs), .int .i64 (T.K.N.E d xs)], [])
  | _, _ => none
def gT39 (T : TN) : List V → List Blk → Option (Bool × V × List Blk)
  | [.int .u8 d, .gs 0], [.rs _ 1 (.ints .u8 xs)] => some (T.KR d xs, .tuple [.bool (T.K.N.OB d xs), .int .i64 (T.K.N.OE d xs)], [])
  | _, _ => none
def gT40 (T : TN) : List V → List Blk → Option (Bool × V × List Blk)
  | [.int .u8 d, .gs 0], [.rs _ 1 (.ints .u8 xs)] => some (T.KR d xs, .tuple [.int .u8 (T.K.N.TV d xs), .int .i64 (T.K.N.TE d xs)], [])
  | _, _ => none
def gT41 (T : TN) : List V → List Blk → Option (Bool × V × List Blk)
  | [.int .u8 d, .gs 0], [.rs _ 1 (.ints .u8 xs)] => some (T.KR d xs, .tuple [.gs 1, .int .i64 (T.K.N.GE d xs)], [.grow false 5 1 (.ints .u8 (T.K.N.GV d xs))])
  | _, _ => none
def gT42 (T : TN) : List V → List Blk → Option (Bool × V × List Blk)
  | [.int .u8 d, .gs 0], [.rs _ 1 (.ints .u8 xs)] => some (T.KR d xs, .tuple [.agg [.int .u8 (T.K.N.CL d xs), .int .u8 (T.K.N.CD d xs), .int .u8 (T.K.N.CR d xs), .int .u8 (T.K.N.CS d xs)], .int .i64 (T.K.N.CE d xs)], [])
  | _, _ => none
def gT43 (T : TN) : List V → List Blk → Option (Bool × V × List Blk)
  | [.gs 0], [.rs _ 1 (.ints .u8 xs)] => some (T.K.N.KS xs, .tuple [.int .i64 (T.K.N.LI xs), .bool (T.K.N.LB xs)], [])
  | _, _ => none
def gT44 (T : TN) : List V → List Blk → Option (Bool × V × List Blk)
  | [.int .u8 d, .gs 0], [.rs _ 1 (.ints .u8 xs)] => some (T.KR d xs, .tuple [.gs 1, .int .i64 (T.K.N.BE d xs)], [.grow false 9 1 (.strs (T.K.N.BV d xs))])
  | _, _ => none
noncomputable def hTabT (T : TN) : HTab := addH 38 (gT38 T) (addH 39 (gT39 T) (addH 40 (gT40 T) (addH 41 (gT41 T) (addH 42 (gT42 T) (addH 43 (gT43 T) (addH 44 (gT44 T) (hTabK T.K)))))))
def domT : FuncId → Bool := fun f => (Nat.ble 38 f && Nat.ble f 46) || domK f
theorem hTabT_ok : HTabOk Tryd.prog (hTabT tN) := by
  refine addH_ok ?_ (addH_ok ?_ (addH_ok ?_ (addH_ok ?_ (addH_ok ?_ (addH_ok ?_ (addH_ok ?_ hTabK_ok))))))
  · intro args h c v nb hq hc
    unfold gT38 at hq
    split at hq
    · cases hq; exact ⟨.of Tryd.func38 (by kernel_rfl), by rw [List.append_nil]; exact rcheck_fn _ hc⟩
    · cases hq
  · intro args h c v nb hq hc
    unfold gT39 at hq
    split at hq
    · cases hq; exact ⟨.of Tryd.func39 (by kernel_rfl), by rw [List.append_nil]; exact rover_fn _ hc⟩
    · cases hq
  · intro args h c v nb hq hc
    unfold gT40 at hq
    split at hq
    · cases hq; exact ⟨.of Tryd.func40 (by kernel_rfl), by rw [List.append_nil]; exact rturn_fn _ hc⟩
    · cases hq
  · intro args h c v nb hq hc
    unfold gT41 at hq
    split at hq
    · cases hq; exact ⟨.of Tryd.func41 (by kernel_rfl), rlegal_fn _ hc⟩
    · cases hq
  · intro args h c v nb hq hc
    unfold gT42 at hq
    split at hq
    · cases hq; exact ⟨.of Tryd.func42 (by kernel_rfl), by rw [List.append_nil]; exact rcon_fn _ hc⟩
    · cases hq
  · intro args h c v nb hq hc
    unfold gT43 at hq
    split at hq
    · cases hq; exact ⟨.of Tryd.func43 (by kernel_rfl), by rw [List.append_nil]; exact rlast_fn _ hc⟩
    · cases hq
  · intro args h c v nb hq hc
    unfold gT44 at hq
    split at hq
    · cases hq; exact ⟨.of Tryd.func44 (by kernel_rfl), rtable_fn _ hc⟩
    · cases hq
def isKp : FuncId → Bool := fun f => Nat.beq f 46
def isOv : FuncId → Bool := fun f => Nat.beq f 45
def nrW : FuncId → Option Row := fun _ => some (.ints .u8 [])
noncomputable abbrev orcTl (T : TN) (P : PTab) (LL : FuncId → Loops) : Oracle := inl Tryd.prog ftab P LL 100 never domT (orElse isKp (wholeOrc nrW (hTabW T.KP)) (orElse isOv (overOrcT oTab) (hOrcN glA nrK (hTabT T)))) 20
theorem orcTl_ok {P : PTab} (hP : PTabOk Tryd.prog P) {LL : FuncId → Loops} (hL : ∀ f, loopsOk Tryd.prog (LL f)) : OracleOk Tryd.prog (orcTl tN P LL) := inl_ok (orElse_ok (wholeOrc_ok hTabW_ok) (orElse_ok (overOrcT_ok oTab_ok) (hOrcN_ok hTabT_ok))) ftab_ok hP hL mixed 20
end Go.Proofs.YtnhilofmafjdpaaDoor

/- Chapter 9: the law tells: its formula. -/
namespace Go.Proofs.YtnhilofmafjdpaaDoor
open Go Go.Eng
noncomputable def lentE (MB : Int → Int → Int) : Nat → Int → List Int → (List Int → Option V) → Option V
  | 0, _, l, Z => Z l
  | n + 1, i, l, Z => bif decide ((l ++ [MB 1 i]).length * 2 ≤ 70368744177664) then lentE MB n (wr .i64 (i + 1)) (l ++ [MB 1 i]) Z else none
noncomputable def fT : Option V := some (.bool false)
/-- What is compared; own: what the program was given. -/
noncomputable def cmpE (T : TN) (d : Int) (xs own : List Int) (Z : Option V) : Option V :=
  bif !decide (T.K.N.A d own = T.K.N.A d xs) then fT else bif !(eqB (T.K.N.OB d own) (T.K.N.OB d xs)) then fT else bif !decide (T.K.N.TV d own = T.K.N.TV d xs) then fT else bif T.K.KL (T.K.N.GV d own) then bif !T.K.EQ (T.K.N.GV d own) (T.K.N.GV d xs) then fT else
  bif !(decide (T.K.N.CL d own = T.K.N.CL d xs) && (decide (T.K.N.CD d own = T.K.N.CD d xs) && (decide (T.K.N.CR d own = T.K.N.CR d xs) && (decide (T.K.N.CS d own = T.K.N.CS d xs) && true)))) then fT else
  bif !decide (T.K.N.LI own = T.K.N.LI xs) then fT else bif !(eqB (T.K.N.LB own) (T.K.N.LB xs)) then fT else bif T.K.KB (T.K.N.BV d own) then bif !T.K.ES (T.K.N.BV d own) (T.K.N.BV d xs) then fT else
  bif !decide (T.K.N.E d own = T.K.N.E d xs) then fT else bif !decide (T.K.N.OE d own = T.K.N.OE d xs) then fT else bif !decide (T.K.N.TE d own = T.K.N.TE d xs) then fT else bif !decide (T.K.N.GE d own = T.K.N.GE d xs) then fT else
  bif !decide (T.K.N.CE d own = T.K.N.CE d xs) then fT else bif !decide (T.K.N.BE d own = T.K.N.BE d xs) then fT else Z else none else none
noncomputable def telZ (T : TN) (d : Int) (xs ws own : List Int) (q : Nat) : Option V :=
  bif decide (0 + q ≤ ws.length) then bif T.K.N.K d own then bif T.KR d xs then bif decide (0 + q ≤ ws.length) then bif T.K.N.K d own then bif T.KR d xs then bif decide (0 + q ≤ ws.length) then bif T.K.N.K d own then bif T.KR d xs then
  bif decide (0 + q ≤ ws.length) then bif T.K.N.K d own then bif T.KR d xs then bif decide (0 + q ≤ ws.length) then bif T.K.N.K d own then bif T.KR d xs then bif decide (0 + q ≤ ws.length) then bif T.K.N.KS own then bif T.K.N.KS xs then
  bif decide (0 + q ≤ ws.length) then bif pB (textsL = textsL) && (T.K.N.K d own && T.K.N.KT own) then bif T.KR d xs then cmpE T d xs own
    (bif decide (0 + q ≤ ws.length) then bif T.K.N.K d own then bif decide ((T.K.N.GV d own).length ≤ 70368744177664) then bif T.K.KL (T.K.N.GV d own) then bif T.K.EQ (T.K.N.GV d own) (T.K.N.GV d xs) then
      bif T.KP ws xs && decide (q = xs.length) then some (.bool true) else none else fT else none else none else none else none)
  else none else none else none else none else none else none else none else none else none else none else none else none else none else none else none else none else none else none else none else none else none
noncomputable def telE (T : TN) (MB : Int → Int → Int) (d : Int) (xs : List Int) : Option V :=
  bif decide (0 ≤ (0 : Int) ∧ 0 ≤ wr .i64 (Int.ofNat xs.length + 12) ∧ wr .i64 (Int.ofNat xs.length + 12) * 2 ≤ 140737488355328) then bif decide (xs.length * 2 ≤ 70368744177664) then
  lentE MB 12 0 xs (fun ws => bif decide (0 ≤ (0 : Int) ∧ 0 ≤ Int.ofNat xs.length ∧ Int.ofNat xs.length ≤ Int.ofNat ws.length) then telZ T d xs ws (List.take ((Int.ofNat xs.length).toNat - 0) (List.drop 0 ws)) ((Int.ofNat xs.length).toNat - 0) else none) else none else none
theorem tells_eval (T : TN) (MB : Int → Int → Int) (nn : Bool) (d : Int) (xs : List Int) : evalFn Tryd.prog (orcTl T (tabMb MB) plainL) noLoops 100 16 Tryd.f16 [.int .u8 d, .gs 1] (gH ++ [.rs nn 1 (.ints .u8 xs)]) (fun v _ => some v) = telE T MB d xs := by cases nn <;> kernel_rfl
end Go.Proofs.YtnhilofmafjdpaaDoor
