/- Chapter 4: Mask and Parse in tables; errors. -/
import Derived.Test.YtbocdcnkmcejjaaDoorMask
import Derived.Test.YtbocdcnkmcejjaaDoorTells0
namespace Go.Proofs.YtbocdcnkmcejjaaDoor
open Go Go.Eng
theorem codesM : codesB [(mkLp, mkLp)] = true := by rw [codesB_iff]; intro x hx; simp at hx; rw [hx]
def mkV (xs : List Int) : Int := bif mkZ (mkN xs 0).1 then ((mkN xs 0).2 : Nat) else 0
theorem mk_eval (nn : Bool) (xs : List Int) : evalFn Tryd.prog (orcS tabI plainL) (mkL nn) 100 28 Tryd.f28 [.gs 0] [.rs nn 1 (.ints .u8 xs)] (fun v h => some (v, h)) =
    cond (codesB [(mkLp, mkLp)]) (bif pB ((0 : Int) = 0 ∧ (0 : Int) = 0 ∧ (0 : Int) = 0 ∧ Int.ofNat xs.length = Int.ofNat xs.length ∧ (0 : Int) = 0 ∧ (∀ c ∈ xs, 0 ≤ c) ∧ xs.length ≤ 100000) then
      bif mkZ (mkN xs 0).1 then some (.tuple [.int .u64 ((mkN xs 0).2 : Nat), .int .i64 0], [.rs nn 1 (.ints .u8 xs)]) else some (.tuple [.int .u64 0, .int .i64 (mkN xs 0).1], [.rs nn 1 (.ints .u8 xs)])
    else none) none := by cases nn <;> kernel_rfl
theorem mask_fn {nn : Bool} {xs : List Int} (h1 : ∀ c ∈ xs, 0 ≤ c) (h2 : xs.length ≤ 100000) : FnOK Tryd.prog 28 [.gs 0] [.rs nn 1 (.ints .u8 xs)] (.tuple [.int .u64 (mkV xs), .int .i64 (mkN xs 0).1]) [.rs nn 1 (.ints .u8 xs)] := by
  have h := mk_eval nn xs
  rw [codesM, pB_iff.2 ⟨rfl, rfl, rfl, rfl, rfl, h1, h2⟩] at h
  have key : evalFn Tryd.prog (orcS tabI plainL) (mkL nn) 100 28 Tryd.f28 [.gs 0] [.rs nn 1 (.ints .u8 xs)] (fun v h => some (v, h)) = some (.tuple [.int .u64 (mkV xs), .int .i64 (mkN xs 0).1], [.rs nn 1 (.ints .u8 xs)]) := by
    rw [h]
    unfold mkV
    cases hz : mkZ (mkN xs 0).1 with
    | true =>
      have : (mkN xs 0).1 = 0 := of_decide_eq_true hz
      rw [this]; rfl
    | false => rfl
  obtain ⟨v1, h1, hk, hok⟩ := evalFn_ok (orcS_ok tabI_ok plainL_ok) mixed Tryd.func28 (mkL_ok nn) key
  cases hk
  exact hok
def gMask : List V → List Blk → Option (Bool × V × List Blk)
  | [.gs 0], [.rs _ 1 (.ints .u8 xs)] => some (xs.all (fun c => decide (0 ≤ c)) && decide (xs.length ≤ 100000), .tuple [.int .u64 (mkV xs), .int .i64 (mkN xs 0).1], [])
  | _, _ => none
theorem gMask_ok {args : List V} {h : List Blk} {c : Bool} {v : V} {nb : List Blk} (hq : gMask args h = some (c, v, nb)) (hc : c = true) : Enterable Tryd.prog 28 ∧ FnOK Tryd.prog 28 args h v (h ++ nb) := by
  unfold gMask at hq
  split at hq
  · cases hq
    simp only [Bool.and_eq_true, decide_eq_true_eq, List.all_eq_true] at hc
    exact ⟨.of Tryd.func28 (by kernel_rfl), mask_fn hc.1 hc.2⟩
  · cases hq
def hTabM : HTab := addH 28 gMask hTabW
def hDomM : FuncId → Bool := fun f => Nat.beq f 28 || hDomW f
theorem hTabM_ok : HTabOk Tryd.prog hTabM := addH_ok (fun _ _ _ _ _ hq hc => gMask_ok hq hc) hTabW_ok
noncomputable abbrev orcM (T : PTab) (LL : FuncId → Loops) : Oracle := inl Tryd.prog ftab T LL 100 never hDomM (hOrcG glW hTabM) 20
theorem orcM_ok {T : PTab} (hT : PTabOk Tryd.prog T) {LL : FuncId → Loops} (hL : ∀ f, loopsOk Tryd.prog (LL f)) : OracleOk Tryd.prog (orcM T LL) := inl_ok (hOrcG_ok hTabM_ok) ftab_ok hT hL mixed 20
/-! ### Parse as two numbers -/
def prV (s : ByteArray) : Int := match parseN s.data.toList with
  | some m => (m : Nat)
  | none => 0
def prE (s : ByteArray) : Int := match parseN s.data.toList with
  | some _ => 0
  | none => 40
def gParse : List V → Option (Bool × V)
  | [.str s] => some (true, .tuple [.int .u64 (prV s), .int .i64 (prE s)])
  | _ => none
theorem parse_q (s : ByteArray) : FnPure Tryd.prog 27 [.str s] (.tuple [.int .u64 (prV s), .int .i64 (prE s)]) := by
  have h := parse_p s
  unfold prV prE
  unfold resP at h
  split at h <;> rename_i e <;> rw [e] <;> exact h
/-! ### numbers that are none -/
def dec2 : Nat → Option Bool := fun n => match n with | 2 => some true | _ => none
def bigI (m : Int) : Bool := decide (4503599627370495 < m)
theorem listE_eval (m : Int) : evalFn Tryd.prog (orcS tabI plainL) (decs dec2) 100 21 Tryd.f21 [.int .u64 m] [] (fun v _ => some v) = bif bigI m then some (.tuple [.flat (.slice none 0 0), .int .i64 41]) else none := by kernel_rfl
theorem hold_eval (m s : Int) : evalFn Tryd.prog (orcS tabI plainL) (decs dec2) 100 37 Tryd.f37 [.int .u64 m, .int .u8 s] [] (fun v _ => some v) = bif bigI m then some (.int .u64 0) else bif decide (3 < s) then some (.int .u64 0) else none := by kernel_rfl
def gListE : List V → Option (Bool × V)
  | [.int .u64 m] => some (bigI m, .tuple [.flat (.slice none 0 0), .int .i64 41])
  | _ => none
def gHoldE : List V → Option (Bool × V)
  | [.int .u64 m, .int .u8 s] => some (bigI m || decide (3 < s), .int .u64 0)
  | _ => none
def gTopE : List V → Option (Bool × V)
  | [.int .u64 m, .int .u8 s] => some (bigI m || decide (3 < s), .tuple [.int .u8 0, .bool false])
  | _ => none
def tabH : PTab := addTab 37 gHoldE tabT
theorem tabH_ok : PTabOk Tryd.prog tabH := by
  refine addTab_ok ?_ tabT_ok
  intro args c v h hc
  unfold gHoldE at h
  split at h
  · rename_i m s
    cases h
    refine fnPure_of_eval (N := 100) (orcS_ok tabI_ok plainL_ok) mixed Tryd.func37 (by kernel_rfl) (decs_ok (d := dec2)) ?_ rfl rfl
    rw [hold_eval]
    cases hb : bigI m with
    | true => rfl
    | false => rw [hb, Bool.false_or] at hc; rw [hc]; rfl
  · cases h
theorem topE_eval (m s : Int) : evalFn Tryd.prog (orcS tabH plainL) noLoops 100 20 Tryd.f20 [.int .u64 m, .int .u8 s] [] (fun v _ => some v) = bif bigI m || decide (3 < s) then some (.tuple [.int .u8 0, .bool false]) else none := by kernel_rfl
theorem lowE_eval (m s : Int) : evalFn Tryd.prog (orcS tabH plainL) noLoops 100 23 Tryd.f23 [.int .u64 m, .int .u8 s] [] (fun v _ => some v) = bif bigI m || decide (3 < s) then some (.tuple [.int .u8 0, .bool false]) else none := by kernel_rfl
def tabE : PTab := addTab 20 gTopE (addTab 23 gTopE (addTab 21 gListE (addTab 27 gParse (addTab 18 gWrite tabT))))
theorem tabE_ok : PTabOk Tryd.prog tabE := by
  refine addTab_ok ?_ (addTab_ok ?_ (addTab_ok ?_ (addTab_ok ?_ (addTab_ok ?_ tabT_ok))))
  · intro args c v h hc
    unfold gTopE at h
    split at h
    · cases h
      refine fnPure_of_eval (N := 100) (orcS_ok tabH_ok plainL_ok) mixed Tryd.func20 (by kernel_rfl) noLoops_ok ?_ rfl rfl
      rw [topE_eval, hc]; rfl
    · cases h
  · intro args c v h hc
    unfold gTopE at h
    split at h
    · cases h
      refine fnPure_of_eval (N := 100) (orcS_ok tabH_ok plainL_ok) mixed Tryd.func23 (by kernel_rfl) noLoops_ok ?_ rfl rfl
      rw [lowE_eval, hc]; rfl
    · cases h
  · intro args c v h hc
    unfold gListE at h
    split at h
    · cases h
      refine fnPure_of_eval (N := 100) (orcS_ok tabI_ok plainL_ok) mixed Tryd.func21 (by kernel_rfl) (decs_ok (d := dec2)) ?_ rfl rfl
      rw [listE_eval, hc]; rfl
    · cases h
  · intro args c v h _
    unfold gParse at h
    split at h
    · cases h; exact parse_q _
    · cases h
  · intro args c v h hc
    unfold gWrite at h
    split at h
    · cases h; simp only [decide_eq_true_eq] at hc; exact write_p hc
    · cases h
end Go.Proofs.YtbocdcnkmcejjaaDoor
