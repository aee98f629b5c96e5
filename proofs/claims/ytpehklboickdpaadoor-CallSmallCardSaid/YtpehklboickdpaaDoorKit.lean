/- Chapter 8: SameBytes; the calls made of numbers. -/
import Derived.Test.YtpehklboickdpaaDoorTA2
namespace Go.Proofs.YtpehklboickdpaaDoor
open Go Go.Eng
def u8s : TR := .ints .u8
noncomputable def saLp : Code := loopOf 4 Tryd.f24
def saT (n1 n2 : Bool) : Tm := ⟨mkS [(0, .gs 0), (1, .gs 1), (4, .bool), (5, .int .i64)] 0 26, [.rs n1 1 u8s, .rs n2 1 u8s], []⟩
def saX (n1 n2 : Bool) : Tm := ⟨mkS [(4, .bool)] 0 26, [.rs n1 1 u8s, .rs n2 1 u8s], []⟩
noncomputable def mdLp : Code := loopOf 3 Tryd.f23
def mdT (nn : Bool) : Tm := ⟨mkS [(3, .gs 1), (10, .view 0 1), (11, .int .i64), (12, .int .i64)] 0 23, [.rs nn 1 u8s, .grow false 5 1 u8s], []⟩
def mdX (nn : Bool) : Tm := ⟨mkS [(3, .gs 1)] 0 23, [.rs nn 1 u8s, .grow false 5 1 u8s], []⟩
end Go.Proofs.YtpehklboickdpaaDoor
