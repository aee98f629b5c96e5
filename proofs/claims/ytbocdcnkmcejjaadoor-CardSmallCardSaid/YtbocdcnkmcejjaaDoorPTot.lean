/- Texts merged: PTot, LSets. -/
import Derived.Test.YtbocdcnkmcejjaaDoorRParse3
import Derived.Test.YtbocdcnkmcejjaaDoorRTop2
import Derived.Test.YtbocdcnkmcejjaaDoorRList3
import Derived.Test.YtbocdcnkmcejjaaDoorLBack2
/- Chapter 4: List, Top and Low at all arguments. -/
namespace Go.Proofs.YtbocdcnkmcejjaaDoor
open Go Go.Eng
theorem list_tot {m : Int} (h0 : 0 ≤ m) : FnOK Tryd.prog 21 [.int .u64 m] [] (.tuple [.gs 0, .int .i64 (liE m)]) ([] ++ [.grow false 5 1 (.ints .u8 (liV m))]) := by
  unfold liE liV
  by_cases hm : m < 4503599627370496
  · rw [decide_eq_false (show ¬ 4503599627370495 < m by omega), cond_false, cond_false]
    exact (list_fn h0 hm).lastAtW (n2 := false) (j := 0) (fun h => by cases h) rfl rfl no_ro
  · have hb : bigI m = true := decide_eq_true (by omega)
    rw [decide_eq_true (show 4503599627370495 < m by omega), cond_true, cond_true]
    have h1 : FnPure Tryd.prog 21 [.int .u64 m] (.tuple [.flat (.slice none 0 0), .int .i64 41]) := by
      refine fnPure_of_eval (N := 100) (orcS_ok tabI_ok plainL_ok) mixed Tryd.func21 (by kernel_rfl) (decs_ok (d := dec2)) ?_ rfl rfl
      rw [listE_eval, hb]; rfl
    exact (h1.2 []).nilT no_ro
theorem top_tot {m s : Int} (h0 : 0 ≤ m) (h1 : 0 ≤ s) : FnPure Tryd.prog 20 [.int .u64 m, .int .u8 s] (.tuple [.int .u8 (toV m s), .bool (toB m s)]) := by
  unfold toV toB
  cases hi : inM m s with
  | true =>
    unfold inM at hi
    simp only [Bool.and_eq_true, decide_eq_true_eq] at hi
    have := top_p (r := m.toNat) (s := s.toNat) (by omega) (by omega)
    rw [show ((m.toNat : Nat) : Int) = m by omega, show ((s.toNat : Nat) : Int) = s by omega] at this
    exact this
  | false =>
    refine fnPure_of_eval (N := 100) (orcS_ok tabH_ok plainL_ok) mixed Tryd.func20 (by kernel_rfl) noLoops_ok ?_ rfl rfl
    have hb : (bigI m || decide (3 < s)) = true := by
      unfold inM at hi
      unfold bigI
      rw [Bool.and_eq_false_iff, decide_eq_false_iff_not, decide_eq_false_iff_not] at hi
      rw [Bool.or_eq_true, decide_eq_true_eq, decide_eq_true_eq]
      omega
    rw [topE_eval, hb]; rfl
theorem low_tot {m s : Int} (h0 : 0 ≤ m) (h1 : 0 ≤ s) : FnOK Tryd.prog 23 [.int .u64 m, .int .u8 s] gH (.tuple [.int .u8 (loV m s), .bool (toB m s)]) gH := by
  unfold loV toB
  cases hi : inM m s with
  | true =>
    unfold inM at hi
    simp only [Bool.and_eq_true, decide_eq_true_eq] at hi
    have := low_fn (r := m.toNat) (s := s.toNat) (by omega) (by omega)
    rw [show ((m.toNat : Nat) : Int) = m by omega, show ((s.toNat : Nat) : Int) = s by omega] at this
    exact this
  | false =>
    have he := low_eval m s
    have key : evalFn Tryd.prog (orcT tabP plainL) noLoops 100 23 Tryd.f23 [.int .u64 m, .int .u8 s] gH keepG = some (.tuple [.int .u8 0, .bool false], bruijnL) := by
      rw [he]
      unfold inM at hi
      rw [Bool.and_eq_false_iff, decide_eq_false_iff_not, decide_eq_false_iff_not] at hi
      by_cases hm : 4503599627370495 < m
      · rw [decide_eq_true hm]; rfl
      · rw [decide_eq_false hm, decide_eq_true (show 3 < s by omega)]; rfl
    obtain ⟨v1, h1, hk, hok⟩ := evalFn_ok (orcT_ok tabP_ok plainL_ok) mixed Tryd.func23 noLoops_ok key
    unfold keepG at hk
    split at hk
    · cases hk
      exact FnOK.cut (h := gH) hok rfl rfl
    · cases hk
end Go.Proofs.YtbocdcnkmcejjaaDoor

/- Chapter 4: the law CardSets: its tables. -/
namespace Go.Proofs.YtbocdcnkmcejjaaDoor
open Go Go.Eng
structure NS where
  lE : Int → Int
  lV : Int → List Int
  mV : List Int → Int
  mE : List Int → Int
  mC : List Int → Bool
  wV : Int → ByteArray
  wE : Int → Int
  pV : ByteArray → Int
  pE : ByteArray → Int
  pC : ByteArray → Bool
  tV : Int → Int → Int
  oV : Int → Int → Int
  tB : Int → Int → Bool
  u : Int → Bool
def gLiN (N : NS) : List V → List Blk → Option (Bool × V × List Blk)
  | [.int .u64 m], [] => some (N.u m, .tuple [.gs 0, .int .i64 (N.lE m)], [.grow false 5 1 (.ints .u8 (N.lV m))])
  | _, _ => none
def gMkN (N : NS) : List V → List Blk → Option (Bool × V × List Blk)
  | [.gs 0], [.rs _ 1 (.ints .u8 xs)] => some (N.mC xs, .tuple [.int .u64 (N.mV xs), .int .i64 (N.mE xs)], [])
  | _, _ => none
noncomputable def gLoN (N : NS) : List V → List Blk → Option (Bool × V × List Blk)
  | [.int .u64 m, .int .u8 s], [.glob 0 (.ints .u8 l)] => some (pB (l = bruijnL) && (N.u m && N.u s), .tuple [.int .u8 (N.oV m s), .bool (N.tB m s)], [])
  | _, _ => none
noncomputable def gAwN : List V → List Blk → Option (Bool × V × List Blk)
  | [], [.glob 0 (.ints .u8 l)] => some (pB (l = bruijnL), .bool true, [])
  | _, _ => none
def gWrN (N : NS) : List V → Option (Bool × V)
  | [.int .u64 m] => some (N.u m, .tuple [.str (N.wV m), .int .i64 (N.wE m)])
  | _ => none
def gPaN (N : NS) : List V → Option (Bool × V)
  | [.str s] => some (N.pC s, .tuple [.int .u64 (N.pV s), .int .i64 (N.pE s)])
  | _ => none
def gTpN (N : NS) : List V → Option (Bool × V)
  | [.int .u64 m, .int .u8 s] => some (N.u m && N.u s, .tuple [.int .u8 (N.tV m s), .bool (N.tB m s)])
  | _ => none
def gRlN (N : NS) : List V → Option (Bool × V)
  | [.int .u64 m, .int .u8 s] => some (N.u m && N.u s, .tuple [.int .u8 (N.oV m s), .bool (N.tB m s)])
  | _ => none
def tabS7 (N : NS) : PTab := addTab 18 (gWrN N) (addTab 25 (gWrN N) (addTab 27 (gPaN N) (addTab 43 (gPaN N) (addTab 20 (gTpN N) (addTab 44 (gTpN N) (addTab 45 (gRlN N) emptyTab))))))
noncomputable def hTabS7 (N : NS) : HTab := addH 21 (gLiN N) (addH 26 (gLiN N) (addH 28 (gMkN N) (addH 41 (gMkN N) (addH 23 (gLoN N) (addH 12 gAwN emptyH)))))
def hDomS7 : FuncId → Bool := fun f => Nat.beq f 21 || (Nat.beq f 26 || (Nat.beq f 28 || (Nat.beq f 41 || (Nat.beq f 23 || Nat.beq f 12))))
def glS7 : FuncId → List Nat := fun f => bif Nat.beq f 23 || Nat.beq f 12 then [0] else []
noncomputable abbrev orcS7 (N : NS) : Oracle := inl Tryd.prog ftab (tabS7 N) plainL 100 never hDomS7 (hOrcG glS7 (hTabS7 N)) 20
end Go.Proofs.YtbocdcnkmcejjaaDoor
