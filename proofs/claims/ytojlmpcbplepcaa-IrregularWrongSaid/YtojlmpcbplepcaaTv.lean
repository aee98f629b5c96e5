/- Texts merged: Tv, Tv2. -/
import Derived.Test.YtojlmpcbplepcaaLw
import Derived.Test.YtojlmpcbplepcaaTu3
/- Chapter 10: IrregularTurned: its loop, at each turn; its summary. -/
namespace Go.Proofs.Ytojlmpcbplepcaa
open Go Go.Eng
noncomputable def tuLp : Code := loopOf 11 Try.f5
def tuBk : List TB := [.rs false 3 (.ints .u8), .grow false 5 1 (.ints .u8), .grow false 3 1 (.ints .i64), .own 29 (.vs (crsT (.gs 1) (.gs 2))), .grow false 5 1 (.ints .u8), .grow false 3 1 (.ints .i64), .own 29 (.vs (crsT (.gs 4) (.gs 5))), .own 29 (.vs (crsT (.gs 1) (.gs 2)))]
def tuT : Tm := ⟨mkS [(2, .int .u8), (6, .bool), (7, .ptr 3 0), (9, .ptr 6 0), (11, .ptr 7 0), (54, .int .i64)] 0 179, tuBk, []⟩
def tuX : Tm := ⟨mkS [(2, .int .u8), (6, .bool), (7, .ptr 3 0), (9, .ptr 6 0), (11, .ptr 7 0)] 0 179, tuBk, []⟩
abbrev tuOut (y : Int) (r : Bool) (ws xs ac : List Int) (a : CD) (ys bc : List Int) (b t : CD) : List PV := .i y :: .b r :: .l ws :: .l xs :: .l ac :: a.pv (.l ys :: .l bc :: b.pv (t.pv []))
abbrev tuIn (y : Int) (r : Bool) (i : Int) (ws xs ac : List Int) (a : CD) (ys bc : List Int) (b t : CD) : List PV := .i y :: .b r :: .i i :: .l ws :: .l xs :: .l ac :: a.pv (.l ys :: .l bc :: b.pv (t.pv []))
def trnC (y : Nat) (a t : CD) : CD := ⟨t.d, rotQ y a.p, rotQ y a.a, t.h, rotQ y a.f⟩
theorem tu_run0 (N : NL) (rd : Option Nat) (r : Bool) (ws xs ac : List Int) (a : CD) (ys bc : List Int) (b t : CD) : roundT Try.prog (orcW N tabAw plainL) noLoops 100 1 rd 5 (.loop tuLp) tuT tuX (tuIn 0 r 0 ws xs ac a ys bc b t) = some (.exit 0, tuOut 0 r ws xs ac a ys bc b (trnC 0 a t), []) := by kernel_rfl
theorem tu_run1 (N : NL) (rd : Option Nat) (r : Bool) (ws xs ac : List Int) (a : CD) (ys bc : List Int) (b t : CD) : roundT Try.prog (orcW N tabAw plainL) noLoops 100 1 rd 5 (.loop tuLp) tuT tuX (tuIn 1 r 0 ws xs ac a ys bc b t) = some (.exit 0, tuOut 1 r ws xs ac a ys bc b (trnC 1 a t), []) := by kernel_rfl
theorem tu_run2 (N : NL) (rd : Option Nat) (r : Bool) (ws xs ac : List Int) (a : CD) (ys bc : List Int) (b t : CD) : roundT Try.prog (orcW N tabAw plainL) noLoops 100 1 rd 5 (.loop tuLp) tuT tuX (tuIn 2 r 0 ws xs ac a ys bc b t) = some (.exit 0, tuOut 2 r ws xs ac a ys bc b (trnC 2 a t), []) := by kernel_rfl
theorem tu_run3 (N : NL) (rd : Option Nat) (r : Bool) (ws xs ac : List Int) (a : CD) (ys bc : List Int) (b t : CD) : roundT Try.prog (orcW N tabAw plainL) noLoops 100 1 rd 5 (.loop tuLp) tuT tuX (tuIn 3 r 0 ws xs ac a ys bc b t) = some (.exit 0, tuOut 3 r ws xs ac a ys bc b (trnC 3 a t), []) := by kernel_rfl
theorem tu_sim {y : Nat} (hy : y < 4) (rd : Option Nat) (r : Bool) (ws xs ac : List Int) (a : CD) (ys bc : List Int) (b t : CD) : SimC Try.prog 1 rd (.loop tuLp) (tuT.at (tuIn (y : Int) r 0 ws xs ac a ys bc b t)) (.exit 0) (tuX.at (tuOut (y : Int) r ws xs ac a ys bc b (trnC y a t))) := by
  have h : roundT Try.prog (orcW nL tabAw plainL) noLoops 100 1 rd 5 (.loop tuLp) tuT tuX (tuIn (y : Int) r 0 ws xs ac a ys bc b t) = some (.exit 0, tuOut (y : Int) r ws xs ac a ys bc b (trnC y a t), []) := by
    rcases four hy with rfl | rfl | rfl | rfl
    · exact tu_run0 nL rd r ws xs ac a ys bc b t
    · exact tu_run1 nL rd r ws xs ac a ys bc b t
    · exact tu_run2 nL rd r ws xs ac a ys bc b t
    · exact tu_run3 nL rd r ws xs ac a ys bc b t
  exact (roundT_sim (orcW_ok tabAw_ok plainL_ok) mixed noLoops_ok (by kernel_rfl) (by kernel_rfl) h codesNil).2 (by simp)
structure NTu where
  RO : Int → CD → CD → CD
def nTu : NTu := ⟨fun y a t => trnC y.toNat a t⟩
noncomputable def tuTree (N : NTu) : List PV → Fin
  | .i y :: .b r :: .i i :: .l ws :: .l xs :: .l ac :: ps => match crsP ps with
    | some (a, .l ys :: .l bc :: ps2) => match crsP ps2 with
      | some (b, ps3) => match crsP ps3 with
        | some (t, []) => .br (decide (i = 0 ∧ 0 ≤ y ∧ y ≤ 3)) (.leaf (.exit 0) (tuX.at (tuOut y r ws xs ac a ys bc b (N.RO y a t)))) .no
        | _ => .no
      | _ => .no
    | _ => .no
  | _ => .no
noncomputable def tuL (N : NTu) : Loops := sums (fun n => match n with | 11 => some (lsumF 1 tuT tuLp (tuTree N)) | _ => none)
theorem tuL_ok : loopsOk Try.prog (tuL nTu) := by
  intro n g hg
  simp only [tuL, sums] at hg
  split at hg
  · cases hg
    refine lsumF_ok (by kernel_rfl) (fun rd ps e1 st1 hq => ?_)
    unfold tuTree at hq
    split at hq
    · rename_i y r i ws xs ac ps
      split at hq
      · rename_i a ys bc ps2 ha
        split at hq
        · rename_i b ps3 hb
          split at hq
          · rename_i t ht
            rw [crsP_ok ha, crsP_ok hb, crsP_ok ht]
            simp only [Fin.pick] at hq
            cases hc : decide (i = 0 ∧ 0 ≤ y ∧ y ≤ 3) with
            | false => rw [hc] at hq; cases hq
            | true =>
              rw [hc, cond_true] at hq
              obtain ⟨rfl, h1, h2⟩ := of_decide_eq_true hc
              cases hq
              obtain ⟨z, rfl⟩ : ∃ z : Nat, y = z := ⟨y.toNat, by omega⟩
              exact tu_sim (by omega) rd r ws xs ac a ys bc b t
          · cases hq
        · cases hq
      · cases hq
    · cases hq
  · cases hg
end Go.Proofs.Ytojlmpcbplepcaa

/- Chapter 10: IrregularTurned: its formula. -/
namespace Go.Proofs.Ytojlmpcbplepcaa
open Go Go.Eng
noncomputable def tuZ (N : NL) (C1 : CD) (X1 A1 : List Int) (C2 : CD) (X2 A2 : List Int) (dd : Int) : Option V := bif decide (N.E.CE C1 X1 A1 = N.E.CE C2 X2 A2) then
  bif decide ((N.E.CQ C1 X1 A1).a = (N.E.CQ C2 X2 A2).a) && (decide ((N.E.CQ C1 X1 A1).b = (N.E.CQ C2 X2 A2).b) && (decide ((N.E.CQ C1 X1 A1).c = (N.E.CQ C2 X2 A2).c) && (decide (dd = (N.E.CQ C2 X2 A2).d) && true))) then some (.bool (decide (N.LV C1 X1 A1 = N.LV C2 X2 A2))) else some (.bool false) else some (.bool false)
noncomputable def tuY (N : NL) (y : Int) (C1 : CD) (X1 A1 : List Int) (C2 : CD) (X2 A2 : List Int) : Option V := bif N.E.OK X1 then bif N.E.OK X2 then bif N.F.OK X1 then bif N.F.OK X2 then
  bif decide (N.E.CE C1 X1 A1 = 0) then bif decide (0 < (N.E.CQ C1 X1 A1).a) then tuZ N C1 X1 A1 C2 X2 A2 ((wr .u8 ((N.E.CQ C1 X1 A1).d + y)).tmod 4) else tuZ N C1 X1 A1 C2 X2 A2 (N.E.CQ C1 X1 A1).d else tuZ N C1 X1 A1 C2 X2 A2 (N.E.CQ C1 X1 A1).d else none else none else none else none
def q4e (a b : Q4) : Bool := decide (a.a = b.a) && (decide (a.b = b.b) && (decide (a.c = b.c) && (decide (a.d = b.d) && true)))
noncomputable def tuW (N : NL) (y : Int) (C1 : CD) (X1 A1 : List Int) (C2 : CD) (X2 A2 : List Int) (T : CD) : Option V := bif N.KL X1 then bif !N.EQ X1 X2 then some (.bool false) else bif N.KL A1 then bif !N.EQ A1 A2 then some (.bool false) else bif !decide (T.d = C2.d) then some (.bool false) else
  bif !q4e T.p C2.p then some (.bool false) else bif !q4e T.a C2.a then some (.bool false) else bif !decide (T.h = C2.h) then some (.bool false) else bif !q4e T.f C2.f then some (.bool false) else tuY N y C1 X1 A1 C2 X2 A2 else none else none
theorem turned_eval (N : NL) (U : NTu) (d y : Int) (ws : List Int) : evalFn Try.prog (orcW N tabAw plainL) (tuL U) 100 5 Try.f5 [.int .u8 d, .gs 0, .int .u8 y] (actsH false ws) (fun v _ => some v) =
    bif N.M.OK d ws then bif N.M.OK (wr .u8 (d.tmod 4 + y.tmod 4)) ws then cond (codesB [(tuLp, tuLp)]) (bif decide ((0 : Int) = 0 ∧ 0 ≤ y.tmod 4 ∧ y.tmod 4 ≤ 3) then
      tuW N (y.tmod 4) (N.M.MC d ws) (N.M.ML d ws) (N.M.MA d ws) (N.M.MC (wr .u8 (d.tmod 4 + y.tmod 4)) ws) (N.M.ML (wr .u8 (d.tmod 4 + y.tmod 4)) ws) (N.M.MA (wr .u8 (d.tmod 4 + y.tmod 4)) ws)
        (U.RO (y.tmod 4) (N.M.MC d ws) ⟨(wr .u8 ((N.M.MC d ws).d + y.tmod 4)).tmod 4, (N.M.MC d ws).p, (N.M.MC d ws).a, (N.M.MC d ws).h, (N.M.MC d ws).f⟩) else none) none else none else none := by kernel_rfl
end Go.Proofs.Ytojlmpcbplepcaa
