/- Texts merged: Tv2, PrO, PrG, RndC. -/
import Derived.Test.YtojlmpcbplepcaaTv
import Derived.Test.YtojlmpcbplepcaaPq
import Derived.Test.YtojlmpcbplepcaaLw
/- Chapter 10: IrregularTurned: its formula. -/
namespace Go.Proofs.Ytojlmpcbplepcaa
open Go Go.Eng
noncomputable def tuZ (N : NL) (C1 : CD) (X1 A1 : List Int) (C2 : CD) (X2 A2 : List Int) (dd : Int) : Option V := bif decide (N.E.CE C1 X1 A1 = N.E.CE C2 X2 A2) then
  bif decide ((N.E.CQ C1 X1 A1).a = (N.E.CQ C2 X2 A2).a) && (decide ((N.E.CQ C1 X1 A1).b = (N.E.CQ C2 X2 A2).b) && (decide ((N.E.CQ C1 X1 A1).c = (N.E.CQ C2 X2 A2).c) && (decide (dd = (N.E.CQ C2 X2 A2).d) && true))) then some (.bool (decide (N.LV C1 X1 A1 = N.LV C2 X2 A2))) else some (.bool false) else some (.bool false)
noncomputable def tuY (N : NL) (y : Int) (C1 : CD) (X1 A1 : List Int) (C2 : CD) (X2 A2 : List Int) : Option V := bif N.E.OK X1 then bif N.E.OK X2 then bif N.F.OK X1 then bif N.F.OK X2 then
  bif decide (N.E.CE C1 X1 A1 = 0) then bif decide (0 < (N.E.CQ C1 X1 A1).a) then tuZ N C1 X1 A1 C2 X2 A2 ((wr .u8 ((N.E.CQ C1 X1 A1).d + y)).tmod 4) else tuZ N C1 X1 A1 C2 X2 A2 (N.E.CQ C1 X1 A1).d else tuZ N C1 X1 A1 C2 X2 A2 (N.E.CQ C1 X1 A1).d else none else none else none else none
def q4e (a b : Q4) : Bool := decide (a.a = b.a) && (decide (a.b = b.b) && (decide (a.c = b.c) && (decide (a.d = b.d) && true)))
noncomputable def tuW (N : NL) (y : Int) (C1 : CD) (X1 A1 : List Int) (C2 : CD) (X2 A2 : List Int) (T : CD) : Option V := bif N.KL X1 then bif !N.EQ X1 X2 then some (.bool false) else bif N.KL A1 then bif !N.EQ A1 A2 then some (.bool false) else bif !decide (T.d = C2.d) then some (.bool false) else
  bif !q4e T.p C2.p then some (.bool false) else bif !q4e T.a C2.a then some (.bool false) else bif !decide (T.h = C2.h) then some (.bool false) else bif !q4e T.f C2.f then some (.bool false) else tuY N y C1 X1 A1 C2 X2 A2 else none else none
theorem turned_eval (N : NL) (U : NTu) (d y : Int) (ws : List Int) : evalFn Try.prog (orcW N tabAw plainL) (tuL U) 100 5 Try.f5 [.int .u8 d, .gs 0, .int .u8 y] (actsH false ws) (fun v _ => some v) =
    bif N.M.OK d ws then bif N.M.OK (wr .u8 (d.tmod 4 + y.tmod 4)) ws then cond (codesB [(tuLp, tuLp)]) (bif decide ((0 : Int) = 0 ∧ 0 ≤ y.tmod 4 ∧ y.tmod 4 ≤ 3) then
      tuW N (y.tmod 4) (N.M.MC d ws) (N.M.ML d ws) (N.M.MA d ws) (N.M.MC (wr .u8 (d.tmod 4 + y.tmod 4)) ws) (N.M.ML (wr .u8 (d.tmod 4 + y.tmod 4)) ws) (N.M.MA (wr .u8 (d.tmod 4 + y.tmod 4)) ws)
        (U.RO (y.tmod 4) (N.M.MC d ws) ⟨(wr .u8 ((N.M.MC d ws).d + y.tmod 4)).tmod 4, (N.M.MC d ws).p, (N.M.MC d ws).a, (N.M.MC d ws).h, (N.M.MC d ws).f⟩) else none) none else none else none := by kernel_rfl
end Go.Proofs.Ytojlmpcbplepcaa

/- Chapter 10: IrregularPlain: the last round. -/
namespace Go.Proofs.Ytojlmpcbplepcaa
open Go Go.Eng
abbrev ppIn (r : Bool) (i : Int) (ws : List Int) (s : CD) (xs ac : List Int) : List PV := .b r :: .i i :: .l ws :: s.pv [.l xs, .l ac]
noncomputable def ppF (b : Bool) (ws : List Int) : Option (XE × List PV × List (Code × Code)) := some (.ret, [.b b, .l ws], [])
noncomputable def ppC (P : NP) (s : CD) (xs ac : List Int) (X : Option (XE × List PV × List (Code × Code))) : Option (XE × List PV × List (Code × Code)) := bif P.A18 s xs ac then bif P.A30 s.d xs then bif P.A14 s xs ac then bif P.A31 s.d xs then bif P.A23 s xs ac then bif P.A32 s.d xs then X else none else none else none else none else none else none
noncomputable def ppM (N : NL) (P : NP) (ws : List Int) (s : CD) (xs ac : List Int) (X : Option (XE × List PV × List (Code × Code))) : Option (XE × List PV × List (Code × Code)) := bif !decide (P.TV s xs ac = P.UV s.d xs) then ppF false ws else bif !q4e (P.CQ s xs ac) (P.DQ s.d xs) then ppF false ws else
  bif !decide (s.h = 0) then ppF false ws else bif !q4e s.p ⟨0, 0, 0, 0⟩ then ppF false ws else bif !q4e s.a ⟨0, 0, 0, 0⟩ then ppF false ws else bif !q4e s.f ⟨0, 0, 0, 0⟩ then ppF false ws else bif !decide (Int.ofNat ac.length = 0) then ppF false ws else
  bif N.F.OK xs then bif !decide (N.LV s xs ac = 0) then ppF false ws else X else none
theorem pp_over (N : NL) (P : NP) (rd : Option Nat) (r : Bool) (i : Int) (ws xs ac : List Int) (s : CD) : roundT Try.prog (orcP N P 101 90 0 0 (fun _ _ _ => [])) noLoops 100 1 rd 8 ppLp ppT ppX (ppIn r i ws s xs ac) =
    ppC P s xs ac (bif N.KL [] then bif !N.EQ [] (P.BV s.d xs) then ppF false ws else ppM N P ws s xs ac (bif decide (0 < (P.CQ s xs ac).a) then bif !decide (N.LE s xs ac = 0) then ppF false ws else ppF true ws else ppF true ws) else none) := by kernel_rfl
end Go.Proofs.Ytojlmpcbplepcaa

/- Chapter 10: IrregularPlain: a round that calls. -/
namespace Go.Proofs.Ytojlmpcbplepcaa
open Go Go.Eng
noncomputable def ppD (N : NL) (r : Bool) (i : Int) (ws : List Int) (s : CD) (xs ac l : List Int) (k : Int) : Option (XE × List PV × List (Code × Code)) := bif decide (0 ≤ k ∧ k < Int.ofNat l.length) then atN l k.toNat fun v => bif N.F.OK xs && (N.F.CK ac && (N.F.DK s && N.F.BY v)) then bif !decide (N.F.DX s xs ac v = 0) then ppF false ws else
  some (.normal, ppIn r (wr .i64 (i + 1)) ws (N.F.DS s xs ac v) (N.F.DL s xs ac v) (N.F.DA s xs ac v), []) else none else none
noncomputable def ppK (N : NL) (r : Bool) (i : Int) (ws : List Int) (s : CD) (xs ac l : List Int) : Option (XE × List PV × List (Code × Code)) := atU ws i fun x => bif decide (Int.ofNat l.length = 0) then none else atU ws i fun y => bif decide (128 ≤ y) then (bif decide (foldI minI (Int.ofNat l.length) [4] = 0) then none else ppD N r i ws s xs ac l (((wr .i64 x).tmod (Int.ofNat l.length)).tmod (foldI minI (Int.ofNat l.length) [4])))
  else ppD N r i ws s xs ac l ((wr .i64 x).tmod (Int.ofNat l.length))
theorem pp_open (N : NL) (P : NP) (rd : Option Nat) (r : Bool) (i : Int) (ws xs ac : List Int) (s : CD) : roundT Try.prog (orcP N P 0 0 102 91 P.LV) noLoops 100 1 rd 8 ppLp ppT ppX (ppIn r i ws s xs ac) =
    ppC P s xs ac (bif N.KL (P.LV s xs ac) then bif !N.EQ (P.LV s xs ac) (P.BV s.d xs) then ppF false ws else ppM N P ws s xs ac (bif decide (Int.ofNat (P.LV s xs ac).length = 0) then ppF true ws else bif decide (foldI minI (Int.ofNat ws.length) [60] ≤ i) then ppF true ws else ppK N r i ws s xs ac (P.LV s xs ac)) else none) := by kernel_rfl
end Go.Proofs.Ytojlmpcbplepcaa

/- Chapter 10: a loop whose rounds have oracles of their own. -/
namespace Go.Proofs.Ytojlmpcbplepcaa
open Go Go.Eng
/-- Rounds, each by its own contracts. -/
theorem loop_of_roundsD {P : Program} {L : Loops} {N n0 : Nat} {rd : Option Nat} {me : FuncId} {c : Code} {T T' : Tm} (hm : P.follows .mixedOrders = true) (hl : loopsOk P L) (hk : T.ok = true) (hk' : T'.ok = true)
    {X : Type} (enc : X → List PV) (inv : X → Prop) (μ : X → Nat) (fin : X → XE × List PV)
    (round : ∀ x, inv x → ∃ C, OracleOk P C ∧ ∃ e qs l, roundT P C L N n0 rd me c T T' (enc x) = some (e, qs, l) ∧ codesOk l ∧
      ((e = .normal ∧ ∃ y, qs = enc y ∧ inv y ∧ μ y < μ x ∧ fin y = fin x) ∨ (e ≠ .normal ∧ (e, qs) = fin x))) :
    ∀ x, inv x → SimC P n0 rd (.loop c) (T.at (enc x)) (fin x).1 (T'.at (fin x).2) := by
  have key : ∀ m x, μ x = m → inv x → ∃ n, SimL P n0 rd c n (T.at (enc x)) (fin x).1 (T'.at (fin x).2) := by
    intro m
    induction m using Nat.strongRecOn with
    | _ m ih =>
      intro x hm' hx
      obtain ⟨C, hC, e, qs, l, h1, h2, h3⟩ := round x hx
      obtain ⟨q1, q2⟩ := roundT_sim hC hm hl hk hk' h1 h2
      rcases h3 with ⟨rfl, y, rfl, hy, hlt, hf⟩ | ⟨hne, hf⟩
      · obtain ⟨n, hn⟩ := ih (μ y) (hm' ▸ hlt) y rfl hy
        rw [hf] at hn
        exact ⟨n + 1, (q1 rfl).step hn⟩
      · rw [← hf]
        exact ⟨1, (q2 hne).leave hne⟩
  intro x hx
  obtain ⟨n, hn⟩ := key _ x rfl hx
  exact hn.loop
end Go.Proofs.Ytojlmpcbplepcaa
