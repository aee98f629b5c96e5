/- Texts merged: Wi, Wj. -/
import Derived.Test.YtojlmpcbplepcaaLw
import Derived.Test.YtojlmpcbplepcaaEng5
/- Chapter 10: IrregularWrong: its switch. -/
namespace Go.Proofs.Ytojlmpcbplepcaa
open Go Go.Eng
noncomputable def wiB : Code := blockOf 0 15 Try.f7
def wiT : Tm := ⟨mkS [(3, .int .u8), (9, .ptr 1 0), (15, .int .u8), (65, .int .u8)] 0 203, [.rs false 3 (.ints .u8), .own 29 (.vs (crsT (.gs 2) (.gs 3))), .grow false 5 1 (.ints .u8), .grow false 3 1 (.ints .i64)], []⟩
def wiPs (n k w : Int) (ws : List Int) (s : CD) (xs ac : List Int) : List PV := .i n :: .i k :: .i w :: .l ws :: s.pv [.l xs, .l ac]
noncomputable def wiO (n k w : Int) (ws : List Int) (s : CD) (xs ac : List Int) : Option (XE × List PV × List (Code × Code)) := some (.normal, wiPs n k w ws s xs ac, [])
section
variable (N : NL) (rd : Option Nat) (n k : Int) (ws xs ac : List Int) (s : CD)
noncomputable abbrev wiR (k w : Int) : Option (XE × List PV × List (Code × Code)) := roundT Try.prog (orcV N) noLoops 100 1 rd 7 (.block 0 wiB) wiT wiT (wiPs n k w ws s xs ac)
theorem wi_0 : wiR N rd n ws xs ac s k 0 = wiO n k 0 ws ⟨wr .u8 (4 + n.tmod 252), s.p, s.a, s.h, s.f⟩ xs ac := by kernel_rfl
theorem wi_1 : wiR N rd n ws xs ac s k 1 = bif N.KL xs then bif decide ((xs ++ [wr .u8 (38 + n.tmod 218)]).length * 2 ≤ 70368744177664) then wiO n k 1 ws s (xs ++ [wr .u8 (38 + n.tmod 218)]) ac else none else none := by kernel_rfl
theorem wi_2 : wiR N rd n ws xs ac s k 2 = bif N.KL xs then bif decide ((xs ++ [0, 0, 0, 0, 0]).length * 2 ≤ 70368744177664) then wiO n k 2 ws s (xs ++ [0, 0, 0, 0, 0]) ac else none else none := by kernel_rfl
theorem wi_3 : wiR N rd n ws xs ac s k 3 = bif N.KL xs then bif decide ((xs ++ [0]).length * 2 ≤ 70368744177664) then bif N.KL ac then bif decide ((ac ++ [Int.ofNat xs.length]).length * 9 ≤ 70368744177664) then wiO n k 3 ws s (xs ++ [0]) (ac ++ [Int.ofNat xs.length]) else none else none else none else none := by kernel_rfl
theorem wi_4 : wiR N rd n ws xs ac s k 4 = bif N.KL ac then bif decide ((ac ++ [wr .i64 (Int.ofNat xs.length + wr .i64 n)]).length * 9 ≤ 70368744177664) then wiO n k 4 ws s xs (ac ++ [wr .i64 (Int.ofNat xs.length + wr .i64 n)]) else none else none := by kernel_rfl
theorem wi_50 : wiR N rd n ws xs ac s 0 5 = wiO n 0 5 ws (s.setP (wr .i64 (101 + wr .i64 n)) 0) xs ac := by kernel_rfl
theorem wi_51 : wiR N rd n ws xs ac s 1 5 = wiO n 1 5 ws (s.setP (wr .i64 (101 + wr .i64 n)) 1) xs ac := by kernel_rfl
theorem wi_52 : wiR N rd n ws xs ac s 2 5 = wiO n 2 5 ws (s.setP (wr .i64 (101 + wr .i64 n)) 2) xs ac := by kernel_rfl
theorem wi_53 : wiR N rd n ws xs ac s 3 5 = wiO n 3 5 ws (s.setP (wr .i64 (101 + wr .i64 n)) 3) xs ac := by kernel_rfl
theorem wi_60 : wiR N rd n ws xs ac s 0 6 = wiO n 0 6 ws (s.setA (wr .u8 (39 + n.tmod 217)) 0) xs ac := by kernel_rfl
theorem wi_61 : wiR N rd n ws xs ac s 1 6 = wiO n 1 6 ws (s.setA (wr .u8 (39 + n.tmod 217)) 1) xs ac := by kernel_rfl
theorem wi_62 : wiR N rd n ws xs ac s 2 6 = wiO n 2 6 ws (s.setA (wr .u8 (39 + n.tmod 217)) 2) xs ac := by kernel_rfl
theorem wi_63 : wiR N rd n ws xs ac s 3 6 = wiO n 3 6 ws (s.setA (wr .u8 (39 + n.tmod 217)) 3) xs ac := by kernel_rfl
theorem wi_70 : wiR N rd n ws xs ac s 0 7 = wiO n 0 7 ws (s.setF (wr .u8 (16 + n.tmod 240)) 0) xs ac := by kernel_rfl
theorem wi_71 : wiR N rd n ws xs ac s 1 7 = wiO n 1 7 ws (s.setF (wr .u8 (16 + n.tmod 240)) 1) xs ac := by kernel_rfl
theorem wi_72 : wiR N rd n ws xs ac s 2 7 = wiO n 2 7 ws (s.setF (wr .u8 (16 + n.tmod 240)) 2) xs ac := by kernel_rfl
theorem wi_73 : wiR N rd n ws xs ac s 3 7 = wiO n 3 7 ws (s.setF (wr .u8 (16 + n.tmod 240)) 3) xs ac := by kernel_rfl
end
end Go.Proofs.Ytojlmpcbplepcaa

/- Chapter 10: IrregularWrong: its formula, the switch known as a whole. -/
namespace Go.Proofs.Ytojlmpcbplepcaa
open Go Go.Eng
structure NWi where
  C : Int → Int → Int → CD → List Int → List Int → Bool
  S : Int → Int → Int → CD → CD
  L : Int → Int → List Int → List Int
  A : Int → Int → List Int → List Int → List Int
noncomputable def wiTr (U : NWi) : List PV → Fin
  | .i n :: .i k :: .i w :: .l ws :: ps => match crsP ps with
    | some (s, [.l xs, .l ac]) => .br (U.C n k w s xs ac) (.leaf .normal (wiT.at (wiPs n k w ws (U.S n k w s) (U.L n w xs) (U.A n w xs ac)))) .no
    | _ => .no
  | _ => .no
noncomputable def wiBB (U : NWi) : Nat → Nat → Option LoopSum := fun id n => bif Nat.beq id 0 && Nat.beq n 15 then some (lsumF 1 wiT wiB (wiTr U)) else none
noncomputable def wgF (N : NL) (s : CD) (xs ac : List Int) : Option V := bif N.F.OK xs && (N.F.CK ac && (N.F.DK s && N.F.BY 0)) then bif N.F.OK xs then bif N.F.OK xs && N.F.DK s then bif N.F.OK xs && (N.F.DK s && N.F.BY 99) then
  bif N.F.OK xs && (N.F.CK ac && (N.F.DK s && (N.F.BY 3 && (N.F.BY 0 && N.F.AL xs)))) then bif N.F.OK xs then
  bif !decide (N.F.DX s xs ac 0 = 100) then some (.bool false) else bif !decide (N.F.OE s xs ac = 100) then some (.bool false) else bif !decide (N.F.OP s xs ac = 100) then some (.bool false) else
  bif !decide (N.F.KE s xs ac 9 99 = 100) then some (.bool false) else bif !decide (N.F.AX s xs ac 0 3 = 100) then some (.bool false) else bif !decide (N.LE s xs ac = 100) then some (.bool false) else
  bif N.F.OK xs then bif !N.F.RG s xs ac then bif decide (Int.ofNat (N.F.DL s xs ac 0).length = 0) then some (.bool (decide ((N.F.DS s xs ac 0).d = 0))) else some (.bool false) else some (.bool false) else none else none else none else none else none else none else none
noncomputable def wgE (N : NL) (U : NWi) (n w : Int) (s : CD) (xs ac : List Int) : Option V := bif N.F.OK xs && (N.F.DK s && N.F.BY 0) then bif !decide (N.F.KE s xs ac (wr .u8 (4 + n.tmod 252)) 0 = 2) then some (.bool false) else
  bif N.F.OK xs && (N.F.CK ac && (N.F.DK s && (N.F.BY (wr .u8 (38 + n.tmod 218)) && N.F.BY (n.tmod 4)))) then bif !decide (N.F.RX s xs ac (n.tmod 4) (wr .u8 (38 + n.tmod 218)) = 80) then some (.bool false) else
  cond (codesB [(wiB, wiB)]) (bif U.C n (n.tmod 4) (w.tmod 8) s xs ac then wgF N (U.S n (n.tmod 4) (w.tmod 8) s) (U.L n (w.tmod 8) xs) (U.A n (w.tmod 8) xs ac) else none) none else none else none
theorem wrong_eval (N : NL) (U : NWi) (d w n : Int) (ws : List Int) : topFn Try.prog (orcV N) noLoops 100 (wiBB U) 7 Try.f7 [.int .u8 d, .gs 0, .int .u8 w, .int .u8 n] (actsH false ws) (fun v _ => some v) =
    bif N.M.OK d ws then wgE N U n w (N.M.MC d ws) (N.M.ML d ws) (N.M.MA d ws) else none := by kernel_rfl
end Go.Proofs.Ytojlmpcbplepcaa
