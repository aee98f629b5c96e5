/- Texts merged: DlT, Dl3, DlE. -/
import Derived.Test.YtpalajfcffdhoaaDoorAw3
/- Chapter 6: the deal that numbers make: the states of its loops. -/
namespace Go.Proofs.YtpalajfcffdhoaaDoor
open Go Go.Eng Go.Deal
noncomputable def dlLp2 : Code := loopOf 8 Tryd.f27
noncomputable def dlLp3 : Code := loopOf 15 Tryd.f27
def z64 : TR := .vs [.lit .u64 0, .lit .u64 0, .lit .u64 0, .lit .u64 0]
def u64s : TR := .vs [.int .u64, .int .u64, .int .u64, .int .u64]
def dlT2 (nn : Bool) : Tm := ⟨mkS [(2, .ptr 1 0), (3, .ptr 2 0), (22, .view 0 1), (23, .int .i64), (24, .int .i64)] 0 62, [.rs nn 1 (.ints .u8), .own 24 z64, .own 98 (.ints .i64)], []⟩
def dlX2 (nn : Bool) : Tm := ⟨mkS [(2, .ptr 1 0), (3, .ptr 2 0)] 0 62, [.rs nn 1 (.ints .u8), .own 24 z64, .own 98 (.ints .i64)], []⟩
def dlT3 (nn : Bool) : Tm := ⟨mkS [(2, .ptr 1 0), (8, .ptr 3 0), (47, .agg [.int .i64]), (48, .int .i64)] 0 62, [.rs nn 1 (.ints .u8), .own 24 z64, .own 98 (.ints .i64), .own 24 u64s], []⟩
noncomputable abbrev orcD : Oracle := orcK n6 (addK tabM) plainL
end Go.Proofs.YtpalajfcffdhoaaDoor

/- Chapter 6: the deal that numbers make: its last loop. -/
namespace Go.Proofs.YtpalajfcffdhoaaDoor
open Go Go.Eng Go.Deal
noncomputable abbrev orcZ : Oracle := orcN n6 emptyTab plainL
def d3T (nn : Bool) : Tm := ⟨mkS [(2, .ptr 1 0), (8, .ptr 3 0), (47, .agg (List.replicate 52 (.int .i64))), (48, .int .i64)] 0 62, [.rs nn 1 (.ints .u8), .own 24 z64, .own 98 (.ints .i64), .own 24 u64s], []⟩
def d3X (nn : Bool) : Tm := ⟨mkS [(2, .ptr 1 0), (8, .ptr 3 0)] 0 62, [.rs nn 1 (.ints .u8), .own 24 z64, .own 98 (.ints .i64), .own 24 u64s], []⟩
def lstF (f : Nat → Int) : List Int := [f 0, f 1, f 2, f 3, f 4, f 5, f 6, f 7, f 8, f 9, f 10, f 11, f 12, f 13, f 14, f 15, f 16, f 17, f 18, f 19, f 20, f 21, f 22, f 23, f 24, f 25, f 26, f 27, f 28, f 29, f 30, f 31, f 32, f 33, f 34, f 35, f 36, f 37, f 38, f 39, f 40, f 41, f 42, f 43, f 44, f 45, f 46, f 47, f 48, f 49, f 50, f 51]
def lstP (f : Nat → Int) (r : List PV) : List PV := .i (f 0) :: .i (f 1) :: .i (f 2) :: .i (f 3) :: .i (f 4) :: .i (f 5) :: .i (f 6) :: .i (f 7) :: .i (f 8) :: .i (f 9) :: .i (f 10) :: .i (f 11) :: .i (f 12) :: .i (f 13) :: .i (f 14) :: .i (f 15) :: .i (f 16) :: .i (f 17) :: .i (f 18) :: .i (f 19) :: .i (f 20) :: .i (f 21) :: .i (f 22) :: .i (f 23) :: .i (f 24) :: .i (f 25) :: .i (f 26) :: .i (f 27) :: .i (f 28) :: .i (f 29) :: .i (f 30) :: .i (f 31) :: .i (f 32) :: .i (f 33) :: .i (f 34) :: .i (f 35) :: .i (f 36) :: .i (f 37) :: .i (f 38) :: .i (f 39) :: .i (f 40) :: .i (f 41) :: .i (f 42) :: .i (f 43) :: .i (f 44) :: .i (f 45) :: .i (f 46) :: .i (f 47) :: .i (f 48) :: .i (f 49) :: .i (f 50) :: .i (f 51) :: r
def d3N (f : Nat → Int) (i : Int) (ls xs : List Int) (a b c d : Int) : RT := some (.normal, lstP f [.i (wr .i64 (i + 1)), .l ls, .l xs, .i a, .i b, .i c, .i d], [])
def d3S (j : Int) (f : Nat → Int) (i : Int) (ls xs : List Int) (a b c d v : Int) : RT := bif decide (j = 0) then d3N f i ls xs v b c d else bif decide (j = 1) then d3N f i ls xs a v c d else bif decide (j = 2) then d3N f i ls xs a b v d else bif decide (j = 3) then d3N f i ls xs a b c v else none
def d3C (j x : Int) (f : Nat → Int) (i : Int) (ls xs : List Int) (a b c d v : Int) : RT := bif decide (x < 0) then none else d3S j f i ls xs a b c d (orI v (shlI x))
def d3L (j x : Int) (f : Nat → Int) (i : Int) (ls xs : List Int) (a b c d : Int) : RT := bif decide (j = 0) then d3C j x f i ls xs a b c d a else bif decide (j = 1) then d3C j x f i ls xs a b c d b else bif decide (j = 2) then d3C j x f i ls xs a b c d c else bif decide (j = 3) then d3C j x f i ls xs a b c d d else none
theorem d3_round (nn : Bool) (rd : Option Nat) (f : Nat → Int) (ls xs : List Int) (i a b c d : Int) : roundT Tryd.prog orcZ noLoops 100 1 rd 27 dlLp3 (d3T nn) (d3X nn) (lstP f [.i i, .l ls, .l xs, .i a, .i b, .i c, .i d]) =
    bif decide (i < 52) then bif decide (0 ≤ i ∧ i < 52) then d3L (wr .i64 (i.tdiv 13)) ((lstF f).getD (i.toNat * 1) 0) f i ls xs a b c d else none else some (.exit 4, [.l ls, .l xs, .i a, .i b, .i c, .i d], []) := by cases nn <;> kernel_rfl
end Go.Proofs.YtpalajfcffdhoaaDoor

/- Chapter 6: the deal that numbers make: its formula. -/
namespace Go.Proofs.YtpalajfcffdhoaaDoor
open Go Go.Eng Go.Deal
def atL {α : Type} (l : List Int) (i : Nat) (K : Int → Option α) : Option α := match l[i]? with
  | some v => K v
  | none => none
def dlJ (i v : Int) : Int := wr .i64 (i + (wr .i64 v).tmod (wr .i64 (52 - i)))
def dlR2 (ln : Nat) (n i : Int) (ls xs : List Int) : RT := bif decide (i < n) then bif decide (0 ≤ i ∧ i < Int.ofNat ln ∧ 0 + ln ≤ ls.length) then atL ls i.toNat fun v => bif decide (wr .i64 (52 - i) = 0) then none else
    bif decide (0 ≤ dlJ i v ∧ dlJ i v < 52) then atL xs (dlJ i v).toNat fun v1 => bif decide (0 ≤ i ∧ i < 52) then atL xs i.toNat fun v2 => bif decide (0 ≤ i ∧ i < 52) then bif decide (i.toNat < xs.length) then
      bif decide (0 ≤ dlJ i v ∧ dlJ i v < 52) then bif decide ((dlJ i v).toNat < (xs.set i.toNat v1).length) then
        some (.normal, [.n 0, .n ln, .i n, .i (wr .i64 (i + 1)), .l ls, .l ((xs.set i.toNat v1).set (dlJ i v).toNat v2)], [])
      else none else none else none else none else none else none else none
  else some (.exit 2, [.l ls, .l xs], [])
theorem dl_round2 (nn : Bool) (rd : Option Nat) (ln : Nat) (n i : Int) (ls xs : List Int) : roundT Tryd.prog orcZ noLoops 100 1 rd 27 dlLp2 (dlT2 nn) (dlX2 nn) [.n 0, .n ln, .i n, .i i, .l ls, .l xs] = dlR2 ln n i ls xs := by cases nn <;> kernel_rfl
def lpF (l : List PV) (j : Nat) : Int := (headP (l.drop j)).toI
section
variable (C : Nat → Nat → Int → Int → List Int → List Int → Bool) (F : List Int → List Int) (C3 : List PV → Bool) (G0 G1 G2 G3 : List PV → Int)
noncomputable def dlTr (nn : Bool) : List PV → Fin
  | [.n l, .n ln, .i n, .i i, .l ls, .l xs] => .br (C l ln n i ls xs) (.leaf (.exit 2) ((dlX2 nn).at [.l ls, .l (F ls)])) .no
  | _ => .no
noncomputable def d3Tr (nn : Bool) (ps : List PV) : Fin := .br (C3 ps) (.leaf (.exit 4) ((d3X nn).at [.l (headP (ps.drop 53)).toL, .l (headP (ps.drop 54)).toL, .i (G0 ps), .i (G1 ps), .i (G2 ps), .i (G3 ps)])) .no
noncomputable def dlL (nn : Bool) : Loops := sums (fun n => match n with | 8 => some (lsumF 1 (dlT2 nn) dlLp2 (dlTr C F nn)) | 15 => some (lsumF 1 (d3T nn) dlLp3 (d3Tr C3 G0 G1 G2 G3 nn)) | _ => none)
def minL (ls : List Int) : Int := foldI minI (Int.ofNat ls.length) [52]
theorem dl_eval (nn : Bool) (ls : List Int) : evalFn Tryd.prog orcZ (dlL C F C3 G0 G1 G2 G3 nn) 100 27 Tryd.f27 [.gs 0] [.rs nn 1 (.ints .u8 ls)] (fun v _ => some v) =
    bif decide ((0 : Int) ≤ 0 ∧ 0 ≤ minL ls ∧ minL ls ≤ Int.ofNat ls.length) then cond (codesB [(dlLp2, dlLp2)]) (bif C 0 (minL ls).toNat (Int.ofNat (minL ls).toNat) 0 ls or0 then
      bif decide (0 + 52 ≤ (F ls).length) then cond (codesB [(dlLp3, dlLp3)]) (bif C3 (lstP (fun j => (F ls).getD j 0) [.i 0, .l ls, .l (F ls), .i 0, .i 0, .i 0, .i 0]) then
        some (q4 (G0 (lstP (fun j => (F ls).getD j 0) [.i 0, .l ls, .l (F ls), .i 0, .i 0, .i 0, .i 0])) (G1 (lstP (fun j => (F ls).getD j 0) [.i 0, .l ls, .l (F ls), .i 0, .i 0, .i 0, .i 0])) (G2 (lstP (fun j => (F ls).getD j 0) [.i 0, .l ls, .l (F ls), .i 0, .i 0, .i 0, .i 0])) (G3 (lstP (fun j => (F ls).getD j 0) [.i 0, .l ls, .l (F ls), .i 0, .i 0, .i 0, .i 0]))) else none) none else none else none) none else none := by cases nn <;> kernel_rfl
end
end Go.Proofs.YtpalajfcffdhoaaDoor
