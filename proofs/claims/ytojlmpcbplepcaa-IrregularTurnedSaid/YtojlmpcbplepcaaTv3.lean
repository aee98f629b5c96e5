/- Texts merged: Tv3, FrameA. -/
import Derived.Test.YtojlmpcbplepcaaTv
import Derived.Test.YtojlmpcbplepcaaTu4
import Derived.Test.YtojlmpcbplepcaaMd3
import Derived.Test.YtojlmpcbplepcaaEng4
/- Chapter 10: the law IrregularTurned. -/
namespace Go.Proofs.Ytojlmpcbplepcaa
open Go Go.Eng
theorem q4e_self (q : Q4) : q4e q q = true := by unfold q4e; simp
theorem tuY_true {c : CS} {z : Nat} (hz : z < 4) (h : c.Ok 160) (h2 : (rotS z c).Ok 160) : tuY nL (z : Int) c.s c.xs c.ac (rotC z c.s) c.xs c.ac = some (.bool true) := by
  have hl := h.le
  obtain ⟨e1, e2⟩ := con_rot hz h.rc h.ho h2.rc h2.ho (by omega)
  have e3 := lead_rot hz h.rc h.ho h2.rc h2.ho (by omega)
  have hok : okL c.xs = true := h.rc.ok (by omega)
  unfold tuY tuZ
  rw [show nL.E.OK c.xs = true from hok, show nL.F.OK c.xs = true from hok, show nL.E.CE c.s c.xs c.ac = conE c.s c.xs c.ac from rfl, show nL.E.CE (rotC z c.s) c.xs c.ac = conE (rotC z c.s) c.xs c.ac from rfl, show nL.E.CQ c.s c.xs c.ac = conI c.s c.xs c.ac from rfl, show nL.E.CQ (rotC z c.s) c.xs c.ac = conI (rotC z c.s) c.xs c.ac from rfl,
    show nL.LV c.s c.xs c.ac = leadV c.s c.xs c.ac from rfl, show nL.LV (rotC z c.s) c.xs c.ac = leadV (rotC z c.s) c.xs c.ac from rfl, e1, e3, decide_eq_true (rfl : leadV c.s c.xs c.ac = leadV c.s c.xs c.ac), decide_eq_true (rfl : conE c.s c.xs c.ac = conE c.s c.xs c.ac)]
  rcases e2 with ⟨q1, q2⟩ | ⟨h0, q, qa, qd, q1, q2⟩
  · rw [q1, q2]
    cases decide (conE c.s c.xs c.ac = 0) <;> rfl
  · rw [h0, q1, q2, decide_eq_true qa, wr_u8_id (by omega), Int.tmod_eq_emod_of_nonneg (by omega)]
    simp
theorem tuW_true {c : CS} {z : Nat} (hz : z < 4) (h : c.Ok 160) (h2 : (rotS z c).Ok 160) : tuW nL (z : Int) c.s c.xs c.ac (rotC z c.s) c.xs c.ac (nTu.RO (z : Int) c.s ⟨(wr .u8 (c.s.d + z)).tmod 4, c.s.p, c.s.a, c.s.h, c.s.f⟩) = some (.bool true) := by
  have hl := h.le
  have hd := h.rc.d
  have hal := h.rc.gc.len
  have ed : (wr .u8 (c.s.d + z)).tmod 4 = (c.s.d + z) % 4 := by rw [wr_u8_id (by omega), Int.tmod_eq_emod_of_nonneg (by omega)]
  have eT : nTu.RO (z : Int) c.s ⟨(wr .u8 (c.s.d + z)).tmod 4, c.s.p, c.s.a, c.s.h, c.s.f⟩ = rotC z c.s := by rw [ed]; rfl
  rw [eT]
  unfold tuW
  rw [show nL.KL c.xs = true from decide_eq_true (by omega), show nL.KL c.ac = true from decide_eq_true (by omega), show nL.EQ c.xs c.xs = true from eqI_iff.2 rfl, show nL.EQ c.ac c.ac = true from eqI_iff.2 rfl, decide_eq_true (rfl : (rotC z c.s).d = (rotC z c.s).d), decide_eq_true (rfl : (rotC z c.s).h = (rotC z c.s).h), q4e_self, q4e_self, q4e_self]
  exact tuY_true hz h h2
theorem tuCd : codesB [(tuLp, tuLp)] = true := by rw [codesB_iff]; intro x hx; simp at hx; rw [hx]
theorem turned_true {d y : Int} {ws : List Int} (hd : 0 ≤ d) (hw : okW ws = true) (hy : 0 ≤ y) : evalFn Try.prog (orcW nL tabAw plainL) (tuL nTu) 100 5 Try.f5 [.int .u8 d, .gs 0, .int .u8 y] (actsH false ws) (fun v _ => some v) = some (.bool true) := by
  have key := turned_eval nL nTu d y ws
  have hd4 : 0 ≤ d.tmod 4 ∧ d.tmod 4 ≤ 3 := by rw [Int.tmod_eq_emod_of_nonneg hd]; omega
  obtain ⟨z, hz⟩ : ∃ z : Nat, y.tmod 4 = z := ⟨(y.tmod 4).toNat, by rw [Int.tmod_eq_emod_of_nonneg hy]; omega⟩
  have hz4 : z < 4 := by rw [Int.tmod_eq_emod_of_nonneg hy] at hz; omega
  rw [hz, wr_u8_id (n := d.tmod 4 + z) (by omega)] at key
  have hm := (made_ok hd hw).1
  have hm2 := (made_ok (d := d.tmod 4 + z) (by omega) hw).1
  have er : mdI (d.tmod 4 + z) ws = rotS z (mdI d ws) := mdI_rot hz4 hw hd (by rw [Int.tmod_eq_emod_of_nonneg (a := d.tmod 4 + z) (by omega)])
  have ok1 : nL.M.OK d ws = true := by show (decide (0 ≤ d) && okW ws) = true; rw [decide_eq_true hd, hw]; rfl
  have ok2 : nL.M.OK (d.tmod 4 + z) ws = true := by show (decide (0 ≤ d.tmod 4 + (z : Int)) && okW ws) = true; rw [decide_eq_true (by omega), hw]; rfl
  rw [ok1, ok2, tuCd, decide_eq_true (show (0 : Int) = 0 ∧ 0 ≤ (z : Int) ∧ (z : Int) ≤ 3 by omega)] at key
  rw [er] at hm2
  have w := tuW_true hz4 hm hm2
  rw [key]
  show tuW nL (z : Int) (mdI d ws).s (mdI d ws).xs (mdI d ws).ac (mdI (d.tmod 4 + z) ws).s (mdI (d.tmod 4 + z) ws).xs (mdI (d.tmod 4 + z) ws).ac _ = _
  rw [er]
  exact w
end Go.Proofs.Ytojlmpcbplepcaa

/- Chapter 10: the frame of a law over a slice of acts. -/
namespace Go.Proofs.Ytojlmpcbplepcaa
open Go Go.Eng Go.ChangeShapes Go.WideShapes Go.ChangeAt Go.RowKit Go.WideMaps
set_option linter.unusedVariables false
theorem own10 : ownKnob Try.prog.godebug = none := by kernel_rfl
theorem laidOut10 : laidOutB Try.prog = true := by kernel_rfl
theorem tri10 : TriKey Try.prog 41 5 := ⟨⟨_, Try.underlying41, by kernel_rfl⟩, by kernel_rfl, by kernel_rfl⟩
def envZ (a : Option Addr) : Env := { blk := fun _ => 0, delta := fun _ => 0, len := fun _ => 0, cap := fun _ => 0, isnil := fun _ => true, base := fun _ => a }
theorem holdsZ {W : World} (a : Option Addr) : Holds (envZ a) (actsH false []) W := by
  refine ⟨fun i blk hb => ?_, fun i j x y hi _ hm => ?_⟩
  · cases i with
    | zero =>
      simp only [actsH, List.getElem?_cons_zero, Option.some.injEq] at hb
      subst hb
      exact ⟨rfl, by omega, rfl, Nat.le_refl _, fun _ => ⟨rfl, rfl⟩, fun h => by cases h⟩
    | succ i => simp [actsH] at hb
  · cases i with
    | zero => simp only [actsH, List.getElem?_cons_zero, Option.some.injEq] at hi; subst hi; cases hm
    | succ i => simp [actsH] at hi
theorem holdsA {W : World} {b off len cap : Nat} {xs : List Int} (hx : xs.length = 3 * len) (hc : len ≤ cap) (hcell : ∀ (i : Nat) x, xs[i]? = some x → W.cell? ⟨b, off + i, none⟩ = some (.int .u8 x)) : Holds (envS b off len cap) (actsH false xs) W := by
  have h := soft_holds (holdsTri (k := .u8) hx hc hcell)
  exact h
theorem okW_of {ws : List Int} (hl : ws.length % 3 = 0) (hw : ∀ n ∈ ws, (Lit.int .u8 n).wf = true) : okW ws = true := by
  refine okW_iff.2 ⟨hl, ?_⟩
  rw [allU_iff]
  intro c hc
  have := hw c hc
  simp only [Lit.wf, IntKind.min, IntKind.max, IntKind.signed, IntKind.bits, Bool.and_eq_true] at this
  simp at this
  omega
theorem u8_pos {a : Int} (w : (Lit.int .u8 a).wf = true) : 0 ≤ a := by
  simp only [Lit.wf, IntKind.min, IntKind.max, IntKind.signed, IntKind.bits, Bool.and_eq_true] at w
  simp at w
  omega
/-- A slice of acts that came in, as a block. -/
theorem open_acts {H : Type} {enc : TypeId × Value → H} {W : World} {base : Nat} {ba : Option Addr} {n c : Nat} {d : DataW H} {p : List MemPlace} (h : DataW.Trod enc Try.prog W base (fun _ => true) true 22 (.slice ba n c) d p) :
    ∃ (ws : List Int) (E : Env), okW ws = true ∧ Holds E (actsH false ws) W ∧ conc E (.gs 0) = .slice ba n c := by
  obtain ⟨fuel, hf⟩ := h
  rcases open_tris Try.underlying22 tri10 Try.underlying5 hf with hcs | ⟨a, len, cap, zs, hcs, hl, hm, hz, hcell, hwz⟩
  · have hv1 := slice_cells hcs
    cases hv1
    exact ⟨[], envZ none, rfl, holdsZ none, rfl⟩
  · have hv1 := slice_cells hcs
    obtain ⟨e1, e2, e3⟩ : some a = ba ∧ len = n ∧ cap = c := by simp only [Value.slice.injEq] at hv1; exact ⟨hv1.1.symm, hv1.2.1.symm, hv1.2.2.symm⟩
    subst e1; subst e2; subst e3
    rcases Nat.eq_zero_or_pos cap with hc0 | hc0
    · subst hc0
      obtain rfl : len = 0 := by omega
      exact ⟨[], envZ (some a), rfl, holdsZ (some a), rfl⟩
    · obtain ⟨b, off, rfl, hat⟩ := ints_at hcell (by omega)
      refine ⟨zs.take (3 * len), envS b off len cap, okW_of (by rw [List.length_take]; omega) (fun n hn => hwz n (List.mem_of_mem_take hn)), holdsA (by rw [List.length_take]; omega) hl (fun i x hi => ?_), by simp [conc, envS]⟩
      rw [List.getElem?_take] at hi
      split at hi
      · have hlt := getElem?_lt hi
        rw [hat i hlt, List.getD_eq_getElem?_getD, hi]
        rfl
      · cases hi
theorem calls_acts {O : Oracle} (hO : OracleOk Try.prog O) {L : Loops} (hL : loopsOk Try.prog L) {N : Nat} {f : FuncId} {fn : Func} (hf : Try.prog.funcs[f]? = some fn) {args : List V} {ws : List Int} (he : evalFn Try.prog O L N f fn args (actsH false ws) (fun v _ => some v) = some (.bool true)) {E : Env} {W : World} (hh : Holds E (actsH false ws) W) (hin : inSs 1 args = true) :
    Calls Try.prog f (concs E args).toArray W fun e w' => e = .returned (.bool true) ∧ RowKit.Below W.heap.size W w' := by
  obtain ⟨v1, h1, hk, hok⟩ := evalFn_ok hO mixed hf hL he
  cases hk
  refine (hok E W hh hin).mono ?_
  rintro e w' ⟨x, E', rfl, hx, _, ht⟩
  exact ⟨by rw [hx.bool], ht.below_ro acts_ro⟩
end Go.Proofs.Ytojlmpcbplepcaa
