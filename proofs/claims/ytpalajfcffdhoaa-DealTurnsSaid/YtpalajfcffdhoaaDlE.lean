/- Chapter 6: the deal that numbers make: its formula. -/
import Derived.Test.YtpalajfcffdhoaaDlT
namespace Go.Proofs.Ytpalajfcffdhoaa
open Go Go.Eng Go.Deal
def atL {α : Type} (l : List Int) (i : Nat) (K : Int → Option α) : Option α := match l[i]? with
  | some v => K v
  | none => none
def dlJ (i v : Int) : Int := wr .i64 (i + (wr .i64 v).tmod (wr .i64 (52 - i)))
def dlR2 (ln : Nat) (n i : Int) (ls xs : List Int) : RT := bif decide (i < n) then bif decide (0 ≤ i ∧ i < Int.ofNat ln ∧ 0 + ln ≤ ls.length) then atL ls i.toNat fun v => bif decide (wr .i64 (52 - i) = 0) then none else
    bif decide (0 ≤ dlJ i v ∧ dlJ i v < 52) then atL xs (dlJ i v).toNat fun v1 => bif decide (0 ≤ i ∧ i < 52) then atL xs i.toNat fun v2 => bif decide (0 ≤ i ∧ i < 52) then bif decide (i.toNat < xs.length) then
      bif decide (0 ≤ dlJ i v ∧ dlJ i v < 52) then bif decide ((dlJ i v).toNat < (xs.set i.toNat v1).length) then
        some (.normal, [.n 0, .n ln, .i n, .i (wr .i64 (i + 1)), .l ls, .l ((xs.set i.toNat v1).set (dlJ i v).toNat v2)], [])
      else none else none else none else none else none else none else none
  else some (.exit 2, [.l ls, .l xs], [])
theorem dl_round2 (nn : Bool) (rd : Option Nat) (ln : Nat) (n i : Int) (ls xs : List Int) : roundT Try.prog orcZ noLoops 100 1 rd 37 dlLp2 (dlT2 nn) (dlX2 nn) [.n 0, .n ln, .i n, .i i, .l ls, .l xs] = dlR2 ln n i ls xs := by cases nn <;> kernel_rfl
def lpF (l : List PV) (j : Nat) : Int := (headP (l.drop j)).toI
section
variable (C : Nat → Nat → Int → Int → List Int → List Int → Bool) (F : List Int → List Int) (C3 : List PV → Bool) (G0 G1 G2 G3 : List PV → Int)
noncomputable def dlTr (nn : Bool) : List PV → Fin
  | [.n l, .n ln, .i n, .i i, .l ls, .l xs] => .br (C l ln n i ls xs) (.leaf (.exit 2) ((dlX2 nn).at [.l ls, .l (F ls)])) .no
  | _ => .no
noncomputable def d3Tr (nn : Bool) (ps : List PV) : Fin := .br (C3 ps) (.leaf (.exit 4) ((d3X nn).at [.l (headP (ps.drop 53)).toL, .l (headP (ps.drop 54)).toL, .i (G0 ps), .i (G1 ps), .i (G2 ps), .i (G3 ps)])) .no
noncomputable def dlL (nn : Bool) : Loops := sums (fun n => match n with | 8 => some (lsumF 1 (dlT2 nn) dlLp2 (dlTr C F nn)) | 15 => some (lsumF 1 (d3T nn) dlLp3 (d3Tr C3 G0 G1 G2 G3 nn)) | _ => none)
def minL (ls : List Int) : Int := foldI minI (Int.ofNat ls.length) [52]
theorem dl_eval (nn : Bool) (ls : List Int) : evalFn Try.prog orcZ (dlL C F C3 G0 G1 G2 G3 nn) 100 37 Try.f37 [.gs 0] [.rs nn 1 (.ints .u8 ls)] (fun v _ => some v) =
    bif decide ((0 : Int) ≤ 0 ∧ 0 ≤ minL ls ∧ minL ls ≤ Int.ofNat ls.length) then cond (codesB [(dlLp2, dlLp2)]) (bif C 0 (minL ls).toNat (Int.ofNat (minL ls).toNat) 0 ls or0 then
      bif decide (0 + 52 ≤ (F ls).length) then cond (codesB [(dlLp3, dlLp3)]) (bif C3 (lstP (fun j => (F ls).getD j 0) [.i 0, .l ls, .l (F ls), .i 0, .i 0, .i 0, .i 0]) then
        some (q4 (G0 (lstP (fun j => (F ls).getD j 0) [.i 0, .l ls, .l (F ls), .i 0, .i 0, .i 0, .i 0])) (G1 (lstP (fun j => (F ls).getD j 0) [.i 0, .l ls, .l (F ls), .i 0, .i 0, .i 0, .i 0])) (G2 (lstP (fun j => (F ls).getD j 0) [.i 0, .l ls, .l (F ls), .i 0, .i 0, .i 0, .i 0])) (G3 (lstP (fun j => (F ls).getD j 0) [.i 0, .l ls, .l (F ls), .i 0, .i 0, .i 0, .i 0]))) else none) none else none else none) none else none := by cases nn <;> kernel_rfl
end
end Go.Proofs.Ytpalajfcffdhoaa
