/- Chapter 9: Last, Legal: their loops. -/
import Derived.Test.YtojlmpcbplepcaaCtr2
namespace Go.Proofs.Ytojlmpcbplepcaa
open Go Go.Eng
def u8s : TR := .ints .u8
noncomputable def laLp : Code := loopOf 2 Try.f54
def laT (nn : Bool) : Tm := ⟨mkS [(0, .gs 0), (2, .int .i64), (3, .bool), (4, .int .i64)] 0 26, [.rs nn 1 u8s], []⟩
def laX (nn : Bool) : Tm := ⟨mkS [(2, .int .i64), (3, .bool)] 0 26, [.rs nn 1 u8s], []⟩
noncomputable def leLp : Code := loopOf 8 Try.f30
def leT (nn : Bool) : Tm := ⟨mkS [(6, .ptr 1 0), (9, .gs 2), (10, .int .u8)] 0 35, [.rs nn 1 u8s, .own 95 (.vs tvS), .grow false 5 1 u8s], []⟩
def leX (nn : Bool) : Tm := ⟨mkS [(9, .gs 2)] 0 35, [.rs nn 1 u8s, .dead, .grow false 5 1 u8s], []⟩
end Go.Proofs.Ytojlmpcbplepcaa
