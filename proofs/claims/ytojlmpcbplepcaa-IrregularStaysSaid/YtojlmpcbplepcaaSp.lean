/- Chapter 10: step: its formula. -/
import Derived.Test.YtojlmpcbplepcaaCf
namespace Go.Proofs.Ytojlmpcbplepcaa
open Go Go.Eng
def ansB (s : CD) (b : Bool) (xs ac ys bc : List Int) : List PV := s.pv [.b b, .l xs, .l ac, .l ys, .l bc]
noncomputable def stR (N : NF) (s : CD) (xs ac : List Int) (y v : Int) : AN := bif N.OK xs && (N.CK ac && (N.DK s && (N.BY v && N.BY y))) then some (ansB (N.RS s xs ac y v) (decide (N.RX s xs ac y v = 0)) xs ac (N.RL s xs ac y v) (N.RA s xs ac y v), []) else none
noncomputable def stE (N : NF) (s : CD) (xs ac : List Int) (w y v : Int) : AN := bif N.OK xs && (N.DK s && N.BY v) then bif !decide (N.KE s xs ac y v = 0) then none else bif decide (N.KV s xs ac y v = 0) then
    bif N.OK xs && (N.CK ac && (N.DK s && N.BY v)) then bif decide (N.DX s xs ac v = 0) then some (ansB (N.DS s xs ac v) true xs ac (N.DL s xs ac v) (N.DA s xs ac v), []) else none else none else
  bif N.OK xs && (N.CK ac && (N.DK s && (N.BY v && (N.BY y && N.AL xs)))) then bif decide (w.tmod 3 = 0) then bif decide (N.AX s xs ac y v = 0) then some (ansB (N.AS s xs ac y v) true xs ac (N.ALs s xs ac y v) (N.AA s xs ac y v), []) else stR N s xs ac y v else stR N s xs ac y v else none else none
noncomputable def stT (N : NF) (s : CD) (xs ac : List Int) (x b w : Int) (t : Int) : AN := bif N.OK xs && N.DK s then bif decide (w.tmod 3 = 2) then bif decide (N.OP s xs ac = 0) then bif decide (0 < Int.ofNat (N.LV s xs ac).length) then bif decide (Int.ofNat (N.LV s xs ac).length = 0) then none else
    bif decide (0 ≤ (wr .i64 x).tmod (Int.ofNat (N.LV s xs ac).length) ∧ (wr .i64 x).tmod (Int.ofNat (N.LV s xs ac).length) < Int.ofNat (N.LV s xs ac).length) then atN (N.LV s xs ac) ((wr .i64 x).tmod (Int.ofNat (N.LV s xs ac).length)).toNat fun v => stE N s xs ac w t v else none else
    stE N s xs ac w ((wr .u8 (t + (b.tmod 6).tmod 4)).tmod 4) (x.tmod 38) else stE N s xs ac w ((wr .u8 (t + (b.tmod 6).tmod 4)).tmod 4) (x.tmod 38) else stE N s xs ac w ((wr .u8 (t + (b.tmod 6).tmod 4)).tmod 4) (x.tmod 38) else none
theorem step_eval (N : NF) (xs ac : List Int) (s : CD) (x b w : Int) : evalFn Try.prog (orcF N emptyTab plainL) noLoops 100 20 Try.f20 [.agg (s.vs (.gs 0) (.gs 1)), .agg [.int .u8 x, .int .u8 b, .int .u8 w]] (crsH false false xs ac) (ansT (crsA false false [.bool]) 2) =
    bif N.OK xs then bif !decide (N.OP s xs ac = 0) then stT N s xs ac x b w 0 else stT N s xs ac x b w (N.TV s xs ac) else none := by kernel_rfl
end Go.Proofs.Ytojlmpcbplepcaa
