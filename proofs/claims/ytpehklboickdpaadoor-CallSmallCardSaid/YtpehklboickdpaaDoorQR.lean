/- Chapter 8: the reference's TextAll and ReadAll: templates. -/
import Derived.Test.YtpehklboickdpaaDoorQN
namespace Go.Proofs.YtpehklboickdpaaDoor
open Go Go.Eng
noncomputable def xtLp : Code := loopOf 5 Tryd.f27
def xtT (nn : Bool) : Tm := ⟨mkS [(0, .gs 0), (2, .str), (3, .int .i64), (4, .str), (5, .int .i64)] 0 35, [.rs nn 1 u8s], []⟩
def xtX (nn : Bool) : Tm := ⟨mkS [(2, .str), (3, .int .i64), (4, .str)] 0 35, [.rs nn 1 u8s], []⟩
noncomputable def xrLp : Code := loopOf 6 Tryd.f28
def xrT : Tm := ⟨mkS [(0, .str), (2, .nil), (3, .int .i64), (4, .gs 0), (5, .str), (6, .int .i64)] 0 51, [.grow false 5 1 u8s], []⟩
def xrX : Tm := ⟨mkS [(2, .nil), (3, .int .i64), (4, .gs 0)] 0 51, [.grow false 5 1 u8s], []⟩
end Go.Proofs.YtpehklboickdpaaDoor
