/- Chapter 4: CardOrder's loops: their states. -/
import Derived.Test.YtbocdcnkmcejjaaDoorLowC
import Derived.Test.YtbocdcnkmcejjaaDoorLess
namespace Go.Proofs.YtbocdcnkmcejjaaDoor
open Go Go.Eng
noncomputable def coLp1 : Code := loopOf 6 Tryd.f6
noncomputable def coLp3 : Code := loopOf 16 Tryd.f6
def coT1 : Tm := ⟨mkS [(0, .int .u64), (2, .bool), (3, .gs 1), (31, .gs 1), (32, .int .i64), (33, .int .i64)] 0 155, [.glob 0 (.ints .u8), .grow true 5 1 (.ints .u8)], []⟩
def coX1 : Tm := ⟨mkS [(0, .int .u64), (2, .bool), (3, .gs 1)] 0 155, [.glob 0 (.ints .u8), .grow true 5 1 (.ints .u8)], []⟩
def coT3 : Tm := ⟨mkS [(0, .int .u64), (2, .bool), (3, .gs 1), (7, .int .u8), (8, .gs 2), (85, .gs 1), (86, .int .i64), (87, .int .i64)] 0 155, [.glob 0 (.ints .u8), .grow true 5 1 (.ints .u8), .grow false 5 1 (.ints .u8)], []⟩
def coX3 : Tm := ⟨mkS [(0, .int .u64), (2, .bool), (3, .gs 1), (7, .int .u8), (8, .gs 2)] 0 155, [.glob 0 (.ints .u8), .grow true 5 1 (.ints .u8), .grow false 5 1 (.ints .u8)], []⟩
end Go.Proofs.YtbocdcnkmcejjaaDoor
