/- Chapter 10: the law's next: its formula. -/
import Derived.Test.YtojlmpcbplepcaaGreatYp0
namespace Go.Proofs.YtojlmpcbplepcaaGreat
open Go Go.Eng
def u8u8 : List TV := [.int .u8, .int .u8]
def nxA : Tm := ⟨[some (.tuple (.agg (crsT (.gs 2) (.gs 1)) :: u8u8))], [.rs false 1 (.ints .u8), .rs false 1 (.ints .i64), .grow false 5 1 (.ints .u8)], []⟩
def nxB : Tm := ⟨[some (.tuple (.agg (crsT (.gs 2) (.gs 3)) :: u8u8))], [.rs false 1 (.ints .u8), .rs false 1 (.ints .i64), .grow false 5 1 (.ints .u8), .grow false 3 1 (.ints .i64)], []⟩
def nxC : Tm := ⟨[some (.tuple (.agg (crsT (.gs 0) (.gs 1)) :: u8u8))], [.rs false 1 (.ints .u8), .rs false 1 (.ints .i64)], []⟩
structure NK where
  A : Int → Int → AN
  B : Int → Int → AN
  C : Int → Int → CD → AN
  Z : Int → Int → AN
section
variable (T : NTl) (s : CD) (xs ac : List Int) (X B W : Int) (de re : Bool) (K : NK)
noncomputable def nxR (y x : Int) : AN := bif decide (W.tmod 3 = 0) then (bif T.C s xs ac && (T.BY y && T.BY x) then bif !decide ((T.AR s xs ac y x).e = 0) then K.C y x s else K.B y x else none) else
  match re with
  | false => bif T.C s xs ac && ((T.BY y && T.BY x) && decide (T.RX s xs ac y x = 0)) then K.C y x (T.RC s xs ac y x) else none
  | true => bif T.C s xs ac && ((T.BY y && T.BY x) && !decide (T.RX s xs ac y x = 0)) then bif !decide (T.RX s xs ac y x = 0) then K.C y x s else K.Z y x else none
noncomputable def nxT (y x : Int) : AN := bif decide (T.OP s xs ac = 0) then bif decide (y = T.TV s xs ac) then (match de with
  | false => bif T.C s xs ac && (T.BY x && decide (T.DX s xs ac x = 0)) then K.A y x else none
  | true => bif T.C s xs ac && (T.BY x && !decide (T.DX s xs ac x = 0)) then bif decide (T.DX s xs ac x = 0) then K.Z y x else nxR T s xs ac W re K y x else none) else nxR T s xs ac W re K y x else nxR T s xs ac W re K y x
noncomputable def nxW (y : Int) : AN := bif decide (W.tmod 3 = 2) then (bif T.C s xs ac then bif decide (T.OP s xs ac = 0) then bif decide (0 < Int.ofNat (T.LV s xs ac).length) then bif decide (Int.ofNat (T.LV s xs ac).length = 0) then none else
    atU (T.LV s xs ac) ((wr .i64 X).tmod (Int.ofNat (T.LV s xs ac).length)) (fun v => nxT T s xs ac W de re K (T.TV s xs ac) v) else nxT T s xs ac W de re K (T.TV s xs ac) (X.tmod 40) else nxT T s xs ac W de re K (T.TV s xs ac) (X.tmod 40) else none) else nxT T s xs ac W de re K y (X.tmod 40)
noncomputable def nxAll : AN := bif T.C s xs ac then bif decide (B.tmod 6 < 4) then nxW T s xs ac X W de re K ((wr .u8 (T.TV s xs ac + B.tmod 6)).tmod 4) else nxW T s xs ac X W de re K (T.TV s xs ac) else none
noncomputable def kA : NK := ⟨fun y x => some ((T.DC s xs ac x).pv [.i y, .i x, .l xs, .l ac, .l (T.DL s xs ac x)], []), fun _ _ => none, fun _ _ _ => none, fun _ _ => none⟩
noncomputable def kB : NK := ⟨fun _ _ => none, fun y x => some ((T.AR s xs ac y x).s.pv [.i y, .i x, .l xs, .l ac, .l (T.AR s xs ac y x).ys, .l (T.AR s xs ac y x).bc], []), fun _ _ _ => none, fun y x => some (c0.pv [.i y, .i x, .l xs, .l ac, .l [], .l []], [])⟩
noncomputable def kC : NK := ⟨fun _ _ => none, fun _ _ => none, fun y x t => some (t.pv [.i y, .i x, .l xs, .l ac], []), fun _ _ => none⟩
noncomputable abbrev evNx (P : Tm) : AN := evalFn Tryz.prog (orcTl T de re) noLoops 100 46 Tryz.f46 [.agg (s.vs (.gs 0) (.gs 1)), .agg [.int .u8 X, .int .u8 B, .int .u8 W]] (crsH false false xs ac) (ansT P 2)
theorem nx_A : evNx T s xs ac X B W false false nxA = nxAll T s xs ac X B W false false (kA T s xs ac) := by kernel_rfl
theorem nx_B0 : evNx T s xs ac X B W false false nxB = nxAll T s xs ac X B W false false (kB T s xs ac) := by kernel_rfl
theorem nx_B1 : evNx T s xs ac X B W true false nxB = nxAll T s xs ac X B W true false (kB T s xs ac) := by kernel_rfl
theorem nx_C0 : evNx T s xs ac X B W false false nxC = nxAll T s xs ac X B W false false (kC xs ac) := by kernel_rfl
theorem nx_C1 : evNx T s xs ac X B W false true nxC = nxAll T s xs ac X B W false true (kC xs ac) := by kernel_rfl
theorem nx_C2 : evNx T s xs ac X B W true false nxC = nxAll T s xs ac X B W true false (kC xs ac) := by kernel_rfl
theorem nx_C3 : evNx T s xs ac X B W true true nxC = nxAll T s xs ac X B W true true (kC xs ac) := by kernel_rfl
end
end Go.Proofs.YtojlmpcbplepcaaGreat
