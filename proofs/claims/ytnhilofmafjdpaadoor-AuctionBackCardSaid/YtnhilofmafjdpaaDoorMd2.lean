/- Chapter 9: Made: one round; what it makes. -/
import Derived.Test.YtnhilofmafjdpaaDoorMd
namespace Go.Proofs.YtnhilofmafjdpaaDoor
open Go Go.Eng
abbrev RT := Option (XE × List PV × List (Code × Code))
noncomputable def pkA (lg out : List Int) (j : Int) (K : List Int → RT) : RT := bif decide (0 ≤ j ∧ j < Int.ofNat lg.length) then (match lg[j.toNat]? with
  | some c => bif decide ((out ++ [c]).length * 2 ≤ 70368744177664) then K (out ++ [c]) else none
  | none => none) else none
def pk1 (lg : List Int) (n : Int) : Int := (wr .i64 n).tmod (Int.ofNat lg.length)
def pk3 (lg : List Int) : Int := foldI minI (Int.ofNat lg.length) [3]
noncomputable def m1G (N : NA) (d : Int) (out : List Int) (n : Int) (S X : RT) (K : List Int → RT) : RT := bif N.K d out then bif !decide (N.GE d out = 0) then X else bif decide (Int.ofNat (N.GV d out).length = 0) then S else bif decide (Int.ofNat (N.GV d out).length = 0) then none else
  bif decide (128 ≤ n) then bif decide (pk3 (N.GV d out) = 0) then none else pkA (N.GV d out) out ((pk1 (N.GV d out) n).tmod (pk3 (N.GV d out))) K else pkA (N.GV d out) out (pk1 (N.GV d out) n) K else none
theorem m1_round (N : NA) (nn : Bool) (rd : Option Nat) (d n i : Int) (k : Nat) (fin : Bool) (xs out : List Int) : roundT Tryd.prog (orcC N (tabO chk ovr) plainL) noLoops 100 1 rd 14 m1Lp (m1T nn) (m1X nn) [.i d, .b fin, .n 0, .n k, .i n, .i i, .l xs, .l out] =
    bif decide (i < n) then bif decide (0 ≤ i ∧ i < Int.ofNat k ∧ 0 + k ≤ xs.length) then (match xs[addS 0 i.toNat]? with
      | some v => m1G N d out v (some (.exit 0, [.i d, .b fin, .l xs, .l out], [])) (some (.exit 0, [.i d, .b fin, .l xs, .l out], [])) (fun o => some (.normal, [.i d, .b fin, .n 0, .n k, .i n, .i (wr .i64 (i + 1)), .l xs, .l o], []))
      | none => none) else none else some (.exit 0, [.i d, .b fin, .l xs, .l out], []) := by cases nn <;> kernel_rfl
theorem m2_round (N : NA) (nn : Bool) (rd : Option Nat) (d i : Int) (fin : Bool) (xs out : List Int) : roundT Tryd.prog (orcC N (tabO chk ovr) plainL) noLoops 100 1 rd 14 m2Lp (m2T nn) (m2X nn) [.i d, .b fin, .i i, .l xs, .l out] =
    bif decide (i < 4) then bif N.K d out then bif fin then bif decide (N.OE d out = 0) then bif !N.OB d out then bif decide ((out ++ [0]).length * 2 ≤ 70368744177664) then some (.normal, [.i d, .b fin, .i (wr .i64 (i + 1)), .l xs, .l (out ++ [0])], []) else none
      else some (.normal, [.i d, .b fin, .i (wr .i64 (i + 1)), .l xs, .l out], []) else some (.normal, [.i d, .b fin, .i (wr .i64 (i + 1)), .l xs, .l out], []) else some (.normal, [.i d, .b fin, .i (wr .i64 (i + 1)), .l xs, .l out], []) else none else some (.exit 2, [.i d, .l xs, .l out], []) := by cases nn <;> kernel_rfl
end Go.Proofs.YtnhilofmafjdpaaDoor
