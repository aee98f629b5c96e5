/- Chapter 9: small helpers of the library and of the verifier: their loops. -/
import Derived.Test.YtnhilofmafjdpaaDoorMd5
import Derived.Test.YtnhilofmafjdpaaDoorEng4
namespace Go.Proofs.YtnhilofmafjdpaaDoor
open Go Go.Eng
noncomputable def sbLp : Code := loopOf 4 Tryd.f30
def sbT (n1 n2 : Bool) : Tm := ⟨mkS [(0, .gs 0), (1, .gs 1), (4, .bool), (5, .int .i64)] 0 26, [.rs n1 1 u8s, .rs n2 1 u8s], []⟩
def sbX (n1 n2 : Bool) : Tm := ⟨mkS [(4, .bool)] 0 26, [.rs n1 1 u8s, .rs n2 1 u8s], []⟩
noncomputable def ssLp : Code := loopOf 4 Tryd.f34
def ssT (n1 n2 : Bool) : Tm := ⟨mkS [(0, .gs 0), (1, .gs 1), (4, .bool), (5, .int .i64)] 0 26, [.rs n1 1 strsT, .rs n2 1 strsT], []⟩
def ssX (n1 n2 : Bool) : Tm := ⟨mkS [(4, .bool)] 0 26, [.rs n1 1 strsT, .rs n2 1 strsT], []⟩
noncomputable def ixLp : Code := loopOf 2 Tryd.f51
def ixT (nn : Bool) : Tm := ⟨mkS [(0, .gs 0), (1, .int .u8), (4, .int .i64), (7, .int .i64), (8, .int .i64)] 0 19, [.rs nn 1 u8s], []⟩
def ixX (nn : Bool) : Tm := ⟨mkS [(4, .int .i64)] 0 19, [.rs nn 1 u8s], []⟩
noncomputable def soLp : Code := loopOf 2 Tryd.f25
def soT (nn : Bool) : Tm := ⟨mkS [(0, .gs 0), (2, .bool), (3, .int .i64)] 0 21, [.rs nn 1 u8s], []⟩
def soX (nn : Bool) : Tm := ⟨mkS [(2, .bool)] 0 21, [.rs nn 1 u8s], []⟩
def atS {α : Type} (l : List ByteArray) (i : Int) (K : ByteArray → Option α) : Option α := bif decide (0 ≤ i ∧ i < Int.ofNat l.length) then (match l[i.toNat]? with | some v => K v | none => none) else none
theorem sb_round (n1 n2 : Bool) (rd : Option Nat) (xs ys : List Int) (b : Bool) (i : Int) : roundT Tryd.prog (orcE emptyTab plainL) noLoops 100 2 rd 30 sbLp (sbT n1 n2) (sbX n1 n2) [.b b, .i i, .l xs, .l ys] =
    bif decide (i < Int.ofNat xs.length) then atU xs i (fun x => atU ys i (fun y => bif !decide (x = y) then some (.ret, [.b false, .l xs, .l ys], []) else some (.normal, [.b b, .i (wr .i64 (i + 1)), .l xs, .l ys], []))) else some (.exit 0, [.b b, .l xs, .l ys], []) := by cases n1 <;> cases n2 <;> kernel_rfl
theorem ss_round (n1 n2 : Bool) (rd : Option Nat) (xs ys : List ByteArray) (b : Bool) (i : Int) : roundT Tryd.prog (orcE emptyTab plainL) noLoops 100 2 rd 34 ssLp (ssT n1 n2) (ssX n1 n2) [.b b, .i i, .ss xs, .ss ys] =
    bif decide (i < Int.ofNat xs.length) then atS xs i (fun x => atS ys i (fun y => bif !strEq x y then some (.ret, [.b false, .ss xs, .ss ys], []) else some (.normal, [.b b, .i (wr .i64 (i + 1)), .ss xs, .ss ys], []))) else some (.exit 0, [.b b, .ss xs, .ss ys], []) := by cases n1 <;> cases n2 <;> kernel_rfl
theorem ix_round (nn : Bool) (rd : Option Nat) (c z n i : Int) (xs : List Int) : roundT Tryd.prog (orcE emptyTab plainL) noLoops 100 1 rd 51 ixLp (ixT nn) (ixX nn) [.i c, .i z, .i n, .i i, .l xs] =
    bif decide (i < n) then atU xs i (fun x => bif decide (c = x) then some (.ret, [.i i, .l xs], []) else some (.normal, [.i c, .i z, .i n, .i (wr .i64 (i + 1)), .l xs], [])) else some (.exit 0, [.i z, .l xs], []) := by cases nn <;> kernel_rfl
end Go.Proofs.YtnhilofmafjdpaaDoor
