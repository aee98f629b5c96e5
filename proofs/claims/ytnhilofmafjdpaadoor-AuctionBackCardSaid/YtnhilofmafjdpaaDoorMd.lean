/- Chapter 9: Made: its loops. -/
import Derived.Test.YtnhilofmafjdpaaDoorAw
namespace Go.Proofs.YtnhilofmafjdpaaDoor
open Go Go.Eng
noncomputable def m1Lp : Code := loopOf 4 Tryd.f14
noncomputable def m2Lp : Code := loopOf 14 Tryd.f14
def m1T (nn : Bool) : Tm := ⟨mkS [(0, .int .u8), (2, .bool), (8, .gs 1), (22, .view 0 1), (23, .int .i64), (24, .int .i64)] 0 84, [.rs nn 1 u8s, .grow false 5 1 u8s], []⟩
def m1X (nn : Bool) : Tm := ⟨mkS [(0, .int .u8), (2, .bool), (8, .gs 1)] 0 84, [.rs nn 1 u8s, .grow false 5 1 u8s], []⟩
def m2T (nn : Bool) : Tm := ⟨mkS [(0, .int .u8), (2, .bool), (8, .gs 1), (61, .int .i64)] 0 84, [.rs nn 1 u8s, .grow false 5 1 u8s], []⟩
def m2X (nn : Bool) : Tm := ⟨mkS [(0, .int .u8), (8, .gs 1)] 0 84, [.rs nn 1 u8s, .grow false 5 1 u8s], []⟩
end Go.Proofs.YtnhilofmafjdpaaDoor
