/- Texts merged: LOrder, LBack. -/
import Derived.Test.YtbocdcnkmcejjaaDoorCo3
import Derived.Test.YtbocdcnkmcejjaaDoorMask2
/- Chapter 4: the law CardOrder. -/
namespace Go.Proofs.YtbocdcnkmcejjaaDoor
open Go Go.Eng
def mI (m : Int) : Int := m.tmod 4503599627370496
theorem co_all (m : Int) : evalFn Tryd.prog (orcW tabD plainL) coL 100 6 Tryd.f6 [.int .u64 m] gH (fun v _ => some v) =
    bif decide (0 ≤ mI m ∧ mI m < 4503599627370496) then bif decide (0 ≤ mI m ∧ mI m < 4503599627370496) then
      bif !decide (Int.ofNat (desc (mI m).toNat 52).length = ((desc (mI m).toNat 52).length : Nat)) then some (.bool false) else
        cond (codesB [(coLp1, coLp1)]) (bif pB (0 ≤ mI m ∧ mI m ≤ 4503599627370495 ∧ (0 : Int) = 0 ∧ desc (mI m).toNat 52 = desc (mI m).toNat 52 ∧ Int.ofNat (desc (mI m).toNat 52).length = Int.ofNat (desc (mI m).toNat 52).length) then
          cond (codesB [(coLp2, coLp2)]) (bif pB (0 ≤ mI m ∧ mI m ≤ 4503599627370495 ∧ (0 : Int) = 0 ∧ desc (mI m).toNat 52 = desc (mI m).toNat 52 ∧ bruijnL = bruijnL) then
            some (.bool true) else none) none
        else none) none
    else none else none := by kernel_rfl
theorem co_true {m : Int} (hm : 0 ≤ m) : evalFn Tryd.prog (orcW tabD plainL) coL 100 6 Tryd.f6 [.int .u64 m] gH (fun v _ => some v) = some (.bool true) := by
  have e1 : mI m = m % 4503599627370496 := Int.tmod_eq_emod_of_nonneg hm
  rw [co_all, codesC, codesC, pB_iff.2 ⟨by omega, by omega, rfl, rfl, rfl⟩, pB_iff.2 ⟨by omega, by omega, rfl, rfl, rfl⟩, decide_eq_true (show 0 ≤ mI m ∧ mI m < 4503599627370496 by omega), decide_eq_true (show Int.ofNat (desc (mI m).toNat 52).length = ((desc (mI m).toNat 52).length : Nat) from rfl)]
  rfl
end Go.Proofs.YtbocdcnkmcejjaaDoor

/- Chapter 4: the law CardBack. -/
namespace Go.Proofs.YtbocdcnkmcejjaaDoor
open Go Go.Eng
def tabB : PTab := addTab 27 gParse (addTab 18 gWrite tabD)
theorem tabB_ok : PTabOk Tryd.prog tabB := by
  refine addTab_ok ?_ (addTab_ok ?_ tabD_ok)
  · intro args c v h _
    unfold gParse at h
    split at h
    · cases h; exact parse_q _
    · cases h
  · intro args c v h hc
    unfold gWrite at h
    split at h
    · cases h; simp only [decide_eq_true_eq] at hc; exact write_p hc
    · cases h
def fls : Option V := some (.bool false)
def cbE (s : ByteArray) : Option V := bif decide (prE s = 0) then bif decide (0 ≤ prV s) then bif !strEq (wrV (prV s)) s then fls else bif !decide (wrE (prV s) = 0) then fls else some (.bool true) else none else some (.bool true)
def cbK (A : Int) (D : List Int) (n : Int) (T : List Int) (s : ByteArray) : Option V :=
  bif decide (T.length * 2 ≤ 70368744177664) then bif T.all (fun c => decide (0 ≤ c)) && decide (T.length ≤ 100000) then bif !decide (mkV T = A) then fls else bif !decide ((mkN T 0).1 = 0) then fls else
  bif decide (0 ≤ n ∧ n < Int.ofNat D.length) then match D[n.toNat]? with
    | some v => bif decide ((T ++ [v]).length * 2 ≤ 70368744177664) then bif (T ++ [v]).all (fun c => decide (0 ≤ c)) && decide ((T ++ [v]).length ≤ 100000) then bif !decide (mkV (T ++ [v]) = 0) then fls else bif !decide ((mkN (T ++ [v]) 0).1 = 42) then fls else cbE s else none else none
    | none => none
  else none else none else none
def cbM (A : Int) (D : List Int) (n : Int) (s : ByteArray) : Option V :=
  bif decide (0 ≤ n ∧ n ≤ Int.ofNat D.length ∧ Int.ofNat D.length ≤ Int.ofNat D.length) then bif decide (n.toNat + ((Int.ofNat D.length).toNat - n.toNat) ≤ D.length) then
    bif decide (((D.drop n.toNat).take ((Int.ofNat D.length).toNat - n.toNat)).length * 2 ≤ 70368744177664) then bif decide (0 ≤ (0 : Int) ∧ 0 ≤ n ∧ n ≤ Int.ofNat D.length) then bif decide (0 + (n.toNat - 0) ≤ D.length) then
      cbK A D n ((D.drop n.toNat).take ((Int.ofNat D.length).toNat - n.toNat) ++ (D.drop 0).take (n.toNat - 0)) s
    else none else none else none else none else none
def cbA (A B : Int) (D : List Int) (k : Int) (s : ByteArray) : Option V :=
  bif decide (0 ≤ A) then bif decide (0 ≤ B) then bif decide (0 ≤ A ∧ A < 4503599627370496) then bif !decide (wrE A = 0) then fls else bif !decide (wrE B = 0) then fls else bif !decide (prE (wrV A) = 0) then fls else bif !decide (prV (wrV A) = A) then fls else
  bif decide (0 ≤ A ∧ A < 4503599627370496) then bif !decide (Int.ofNat (wrV A).data.toList.length = wr .i64 ((D.length : Nat) + 3)) then fls else bif decide (0 ≤ A ∧ A < 4503599627370496) then bif !decide (Int.ofNat D.length = (D.length : Nat)) then fls else
  bif !(bif strEq (wrV A) (wrV B) then decide (A = B) else !decide (A = B)) then fls else bif decide (0 < Int.ofNat D.length) then bif decide (Int.ofNat D.length = 0) then none else cbM A D ((wr .i64 k).tmod (Int.ofNat D.length)) s else cbE s
  else none else none else none else none else none
theorem cb_all (a b k : Int) (s : ByteArray) : evalFn Tryd.prog (orcM tabB plainL) noLoops 100 9 Tryd.f9 [.int .u64 a, .int .u64 b, .str s, .int .u8 k] gH (fun v _ => some v) = cbA (mI a) (mI b) (desc (mI a).toNat 52) k s := by kernel_rfl
end Go.Proofs.YtbocdcnkmcejjaaDoor
