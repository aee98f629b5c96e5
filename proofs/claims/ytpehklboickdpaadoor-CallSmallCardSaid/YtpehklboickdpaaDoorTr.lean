/- Chapter 8: TrimSpace: its loops. -/
import Derived.Test.YtpehklboickdpaaDoorKit2
namespace Go.Proofs.YtpehklboickdpaaDoor
open Go Go.Eng
noncomputable def tsLp1 : Code := loopOf 2 Tryd.f25
noncomputable def tsLp2 : Code := loopOf 9 Tryd.f25
def tsT2 : Tm := ⟨mkS [(0, .str), (2, .str), (5, .int .i64)] 0 54, [.glob 1 u8s], []⟩
def tsX2 : Tm := ⟨mkS [(2, .str)] 0 54, [.glob 1 u8s], []⟩
def tsT1 : Tm := ⟨mkS [(0, .str), (2, .str), (8, .gs 1), (9, .int .i64), (10, .int .i64)] 0 54, [.glob 1 u8s, .grow true 5 1 u8s], []⟩
def tsX1 : Tm := ⟨mkS [(2, .str)] 0 54, [.glob 1 u8s], []⟩
end Go.Proofs.YtpehklboickdpaaDoor
