/- Texts merged: DlT, Dl3. -/
import Derived.Test.YtpalajfcffdhoaaAw3
/- Chapter 6: the deal that numbers make: the states of its loops. -/
namespace Go.Proofs.Ytpalajfcffdhoaa
open Go Go.Eng Go.Deal
noncomputable def dlLp2 : Code := loopOf 8 Try.f37
noncomputable def dlLp3 : Code := loopOf 15 Try.f37
def z64 : TR := .vs [.lit .u64 0, .lit .u64 0, .lit .u64 0, .lit .u64 0]
def u64s : TR := .vs [.int .u64, .int .u64, .int .u64, .int .u64]
def dlT2 (nn : Bool) : Tm := ⟨mkS [(2, .ptr 1 0), (3, .ptr 2 0), (22, .view 0 1), (23, .int .i64), (24, .int .i64)] 0 62, [.rs nn 1 (.ints .u8), .own 24 z64, .own 105 (.ints .i64)], []⟩
def dlX2 (nn : Bool) : Tm := ⟨mkS [(2, .ptr 1 0), (3, .ptr 2 0)] 0 62, [.rs nn 1 (.ints .u8), .own 24 z64, .own 105 (.ints .i64)], []⟩
def dlT3 (nn : Bool) : Tm := ⟨mkS [(2, .ptr 1 0), (8, .ptr 3 0), (47, .agg [.int .i64]), (48, .int .i64)] 0 62, [.rs nn 1 (.ints .u8), .own 24 z64, .own 105 (.ints .i64), .own 24 u64s], []⟩
noncomputable abbrev orcD : Oracle := orcK n6 (addK tabM) plainL
end Go.Proofs.Ytpalajfcffdhoaa

/- Chapter 6: the deal that numbers make: its last loop. -/
namespace Go.Proofs.Ytpalajfcffdhoaa
open Go Go.Eng Go.Deal
noncomputable abbrev orcZ : Oracle := orcN n6 emptyTab plainL
def d3T (nn : Bool) : Tm := ⟨mkS [(2, .ptr 1 0), (8, .ptr 3 0), (47, .agg (List.replicate 52 (.int .i64))), (48, .int .i64)] 0 62, [.rs nn 1 (.ints .u8), .own 24 z64, .own 105 (.ints .i64), .own 24 u64s], []⟩
def d3X (nn : Bool) : Tm := ⟨mkS [(2, .ptr 1 0), (8, .ptr 3 0)] 0 62, [.rs nn 1 (.ints .u8), .own 24 z64, .own 105 (.ints .i64), .own 24 u64s], []⟩
def lstF (f : Nat → Int) : List Int := [f 0, f 1, f 2, f 3, f 4, f 5, f 6, f 7, f 8, f 9, f 10, f 11, f 12, f 13, f 14, f 15, f 16, f 17, f 18, f 19, f 20, f 21, f 22, f 23, f 24, f 25, f 26, f 27, f 28, f 29, f 30, f 31, f 32, f 33, f 34, f 35, f 36, f 37, f 38, f 39, f 40, f 41, f 42, f 43, f 44, f 45, f 46, f 47, f 48, f 49, f 50, f 51]
def lstP (f : Nat → Int) (r : List PV) : List PV := .i (f 0) :: .i (f 1) :: .i (f 2) :: .i (f 3) :: .i (f 4) :: .i (f 5) :: .i (f 6) :: .i (f 7) :: .i (f 8) :: .i (f 9) :: .i (f 10) :: .i (f 11) :: .i (f 12) :: .i (f 13) :: .i (f 14) :: .i (f 15) :: .i (f 16) :: .i (f 17) :: .i (f 18) :: .i (f 19) :: .i (f 20) :: .i (f 21) :: .i (f 22) :: .i (f 23) :: .i (f 24) :: .i (f 25) :: .i (f 26) :: .i (f 27) :: .i (f 28) :: .i (f 29) :: .i (f 30) :: .i (f 31) :: .i (f 32) :: .i (f 33) :: .i (f 34) :: .i (f 35) :: .i (f 36) :: .i (f 37) :: .i (f 38) :: .i (f 39) :: .i (f 40) :: .i (f 41) :: .i (f 42) :: .i (f 43) :: .i (f 44) :: .i (f 45) :: .i (f 46) :: .i (f 47) :: .i (f 48) :: .i (f 49) :: .i (f 50) :: .i (f 51) :: r
def d3N (f : Nat → Int) (i : Int) (ls xs : List Int) (a b c d : Int) : RT := some (.normal, lstP f [.i (wr .i64 (i + 1)), .l ls, .l xs, .i a, .i b, .i c, .i d], [])
def d3S (j : Int) (f : Nat → Int) (i : Int) (ls xs : List Int) (a b c d v : Int) : RT := bif decide (j = 0) then d3N f i ls xs v b c d else bif decide (j = 1) then d3N f i ls xs a v c d else bif decide (j = 2) then d3N f i ls xs a b v d else bif decide (j = 3) then d3N f i ls xs a b c v else none
def d3C (j x : Int) (f : Nat → Int) (i : Int) (ls xs : List Int) (a b c d v : Int) : RT := bif decide (x < 0) then none else d3S j f i ls xs a b c d (orI v (shlI x))
def d3L (j x : Int) (f : Nat → Int) (i : Int) (ls xs : List Int) (a b c d : Int) : RT := bif decide (j = 0) then d3C j x f i ls xs a b c d a else bif decide (j = 1) then d3C j x f i ls xs a b c d b else bif decide (j = 2) then d3C j x f i ls xs a b c d c else bif decide (j = 3) then d3C j x f i ls xs a b c d d else none
theorem d3_round (nn : Bool) (rd : Option Nat) (f : Nat → Int) (ls xs : List Int) (i a b c d : Int) : roundT Try.prog orcZ noLoops 100 1 rd 37 dlLp3 (d3T nn) (d3X nn) (lstP f [.i i, .l ls, .l xs, .i a, .i b, .i c, .i d]) =
    bif decide (i < 52) then bif decide (0 ≤ i ∧ i < 52) then d3L (wr .i64 (i.tdiv 13)) ((lstF f).getD (i.toNat * 1) 0) f i ls xs a b c d else none else some (.exit 4, [.l ls, .l xs, .i a, .i b, .i c, .i d], []) := by cases nn <;> kernel_rfl
end Go.Proofs.Ytpalajfcffdhoaa
