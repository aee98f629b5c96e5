/- Texts merged: Pr4, FrameA, FrameB. -/
import Derived.Test.YtojlmpcbplepcaaPr3
import Derived.Test.YtojlmpcbplepcaaMd3
import Derived.Test.YtojlmpcbplepcaaEng4
/- Chapter 10: the law IrregularPlain. -/
namespace Go.Proofs.Ytojlmpcbplepcaa
open Go Go.Eng
structure NPl where
  U : List Int → Bool
  D4 : Int → Bool
def nPl : NPl := ⟨allU, fun d => decide (0 ≤ d ∧ d ≤ 3)⟩
noncomputable def ppTree (N : NPl) : List PV → Fin
  | .b _ :: .i i :: .l ws :: ps => match crsP ps with
    | some (s, [.l xs, .l ac]) => .br (decide (i = 0 ∧ xs.length = 0 ∧ ac.length = 0) && (N.U ws && (isC0 s && N.D4 s.d))) (.leaf .ret (ppX.at [.b true, .l ws])) .no
    | _ => .no
  | _ => .no
noncomputable def ppL (N : NPl) : Loops := sums (fun n => match n with | 6 => some (lsumF 1 ppT ppLp (ppTree N)) | _ => none)
theorem ppL_ok : loopsOk Try.prog (ppL nPl) := by
  intro n g hg
  simp only [ppL, sums] at hg
  split at hg
  · cases hg
    refine lsumF_ok (by kernel_rfl) (fun rd ps e1 st1 hq => ?_)
    unfold ppTree at hq
    split at hq
    · rename_i r i ws ps
      split at hq
      · rename_i s xs ac hs
        rw [crsP_ok hs]
        simp only [Fin.pick] at hq
        cases hc : decide (i = 0 ∧ xs.length = 0 ∧ ac.length = 0) && (nPl.U ws && (isC0 s && nPl.D4 s.d)) with
        | false => rw [hc] at hq; cases hq
        | true =>
          rw [hc, cond_true] at hq
          simp only [Bool.and_eq_true, decide_eq_true_eq] at hc
          obtain ⟨⟨rfl, h1, h2⟩, h5, h6, h7⟩ := hc
          obtain rfl := List.eq_nil_of_length_eq_zero h1
          obtain rfl := List.eq_nil_of_length_eq_zero h2
          cases hq
          have hs0 := isC0_ok h6
          rw [hs0]
          exact pp_loop rd r ws h5 s.d (of_decide_eq_true h7) (0, []) ⟨by omega, rfl, .nil⟩
      · cases hq
    · cases hq
  · cases hg
theorem plain_eval (N : NL) (U : NPl) (d : Int) (ws : List Int) : evalFn Try.prog (orcW N tabAw plainL) (ppL U) 100 8 Try.f8 [.int .u8 d, .gs 0] [.rs false 1 (.ints .u8 ws)] (fun v _ => some v) =
    cond (codesB [(ppLp, ppLp)]) (bif decide ((0 : Int) = 0 ∧ ([] : List Int).length = 0 ∧ ([] : List Int).length = 0) && (U.U ws && (isC0 (crs0 (d.tmod 4)) && U.D4 (d.tmod 4))) then some (.bool true) else none) none := by kernel_rfl
theorem ppCd : codesB [(ppLp, ppLp)] = true := by rw [codesB_iff]; intro x hx; simp at hx; rw [hx]
theorem plain_true {d : Int} {ws : List Int} (hd : 0 ≤ d) (hw : allU ws = true) : evalFn Try.prog (orcW nL tabAw plainL) (ppL nPl) 100 8 Try.f8 [.int .u8 d, .gs 0] [.rs false 1 (.ints .u8 ws)] (fun v _ => some v) = some (.bool true) := by
  have key := plain_eval nL nPl d ws
  have hd4 : 0 ≤ d.tmod 4 ∧ d.tmod 4 ≤ 3 := by rw [Int.tmod_eq_emod_of_nonneg hd]; omega
  rw [ppCd, show nPl.U ws = true from hw, show isC0 (crs0 (d.tmod 4)) = true from rfl, show nPl.D4 (d.tmod 4) = true from decide_eq_true hd4] at key
  exact key
end Go.Proofs.Ytojlmpcbplepcaa

/- Chapter 10: the frame of a law over a slice of acts. -/
namespace Go.Proofs.Ytojlmpcbplepcaa
open Go Go.Eng Go.ChangeShapes Go.WideShapes Go.ChangeAt Go.RowKit Go.WideMaps
set_option linter.unusedVariables false
theorem own10 : ownKnob Try.prog.godebug = none := by kernel_rfl
theorem laidOut10 : laidOutB Try.prog = true := by kernel_rfl
theorem tri10 : TriKey Try.prog 41 5 := ⟨⟨_, Try.underlying41, by kernel_rfl⟩, by kernel_rfl, by kernel_rfl⟩
def envZ (a : Option Addr) : Env := { blk := fun _ => 0, delta := fun _ => 0, len := fun _ => 0, cap := fun _ => 0, isnil := fun _ => true, base := fun _ => a }
theorem holdsZ {W : World} (a : Option Addr) : Holds (envZ a) (actsH false []) W := by
  refine ⟨fun i blk hb => ?_, fun i j x y hi _ hm => ?_⟩
  · cases i with
    | zero =>
      simp only [actsH, List.getElem?_cons_zero, Option.some.injEq] at hb
      subst hb
      exact ⟨rfl, by omega, rfl, Nat.le_refl _, fun _ => ⟨rfl, rfl⟩, fun h => by cases h⟩
    | succ i => simp [actsH] at hb
  · cases i with
    | zero => simp only [actsH, List.getElem?_cons_zero, Option.some.injEq] at hi; subst hi; cases hm
    | succ i => simp [actsH] at hi
theorem holdsA {W : World} {b off len cap : Nat} {xs : List Int} (hx : xs.length = 3 * len) (hc : len ≤ cap) (hcell : ∀ (i : Nat) x, xs[i]? = some x → W.cell? ⟨b, off + i, none⟩ = some (.int .u8 x)) : Holds (envS b off len cap) (actsH false xs) W := by
  have h := soft_holds (holdsTri (k := .u8) hx hc hcell)
  exact h
theorem okW_of {ws : List Int} (hl : ws.length % 3 = 0) (hw : ∀ n ∈ ws, (Lit.int .u8 n).wf = true) : okW ws = true := by
  refine okW_iff.2 ⟨hl, ?_⟩
  rw [allU_iff]
  intro c hc
  have := hw c hc
  simp only [Lit.wf, IntKind.min, IntKind.max, IntKind.signed, IntKind.bits, Bool.and_eq_true] at this
  simp at this
  omega
theorem u8_pos {a : Int} (w : (Lit.int .u8 a).wf = true) : 0 ≤ a := by
  simp only [Lit.wf, IntKind.min, IntKind.max, IntKind.signed, IntKind.bits, Bool.and_eq_true] at w
  simp at w
  omega
/-- A slice of acts that came in, as a block. -/
theorem open_acts {H : Type} {enc : TypeId × Value → H} {W : World} {base : Nat} {ba : Option Addr} {n c : Nat} {d : DataW H} {p : List MemPlace} (h : DataW.Trod enc Try.prog W base (fun _ => true) true 22 (.slice ba n c) d p) :
    ∃ (ws : List Int) (E : Env), okW ws = true ∧ Holds E (actsH false ws) W ∧ conc E (.gs 0) = .slice ba n c := by
  obtain ⟨fuel, hf⟩ := h
  rcases open_tris Try.underlying22 tri10 Try.underlying5 hf with hcs | ⟨a, len, cap, zs, hcs, hl, hm, hz, hcell, hwz⟩
  · have hv1 := slice_cells hcs
    cases hv1
    exact ⟨[], envZ none, rfl, holdsZ none, rfl⟩
  · have hv1 := slice_cells hcs
    obtain ⟨e1, e2, e3⟩ : some a = ba ∧ len = n ∧ cap = c := by simp only [Value.slice.injEq] at hv1; exact ⟨hv1.1.symm, hv1.2.1.symm, hv1.2.2.symm⟩
    subst e1; subst e2; subst e3
    rcases Nat.eq_zero_or_pos cap with hc0 | hc0
    · subst hc0
      obtain rfl : len = 0 := by omega
      exact ⟨[], envZ (some a), rfl, holdsZ (some a), rfl⟩
    · obtain ⟨b, off, rfl, hat⟩ := ints_at hcell (by omega)
      refine ⟨zs.take (3 * len), envS b off len cap, okW_of (by rw [List.length_take]; omega) (fun n hn => hwz n (List.mem_of_mem_take hn)), holdsA (by rw [List.length_take]; omega) hl (fun i x hi => ?_), by simp [conc, envS]⟩
      rw [List.getElem?_take] at hi
      split at hi
      · have hlt := getElem?_lt hi
        rw [hat i hlt, List.getD_eq_getElem?_getD, hi]
        rfl
      · cases hi
theorem calls_acts {O : Oracle} (hO : OracleOk Try.prog O) {L : Loops} (hL : loopsOk Try.prog L) {N : Nat} {f : FuncId} {fn : Func} (hf : Try.prog.funcs[f]? = some fn) {args : List V} {ws : List Int} (he : evalFn Try.prog O L N f fn args (actsH false ws) (fun v _ => some v) = some (.bool true)) {E : Env} {W : World} (hh : Holds E (actsH false ws) W) (hin : inSs 1 args = true) :
    Calls Try.prog f (concs E args).toArray W fun e w' => e = .returned (.bool true) ∧ RowKit.Below W.heap.size W w' := by
  obtain ⟨v1, h1, hk, hok⟩ := evalFn_ok hO mixed hf hL he
  cases hk
  refine (hok E W hh hin).mono ?_
  rintro e w' ⟨x, E', rfl, hx, _, ht⟩
  exact ⟨by rw [hx.bool], ht.below_ro acts_ro⟩
end Go.Proofs.Ytojlmpcbplepcaa

/- Chapter 10: the frame of a law over a slice of bytes. -/
namespace Go.Proofs.Ytojlmpcbplepcaa
open Go Go.Eng Go.ChangeShapes Go.WideShapes Go.ChangeAt Go.RowKit Go.WideMaps
set_option linter.unusedVariables false
def bytesH (ws : List Int) : List Blk := [.rs false 1 (.ints .u8 ws)]
theorem bytes_ro {ws : List Int} : ∀ (b : Nat) blk, (bytesH ws)[b]? = some blk → blk.mine = false := by
  intro b blk hb
  match b, hb with
  | 0, hb => cases hb; rfl
  | _ + 1, hb => simp [bytesH] at hb
theorem holdsZB {W : World} (a : Option Addr) : Holds (envZ a) (bytesH []) W := by
  refine ⟨fun i blk hb => ?_, fun i j x y hi _ hm => ?_⟩
  · cases i with
    | zero =>
      simp only [bytesH, List.getElem?_cons_zero, Option.some.injEq] at hb
      subst hb
      exact ⟨rfl, by omega, rfl, Nat.le_refl _, fun _ => ⟨rfl, rfl⟩, fun h => by cases h⟩
    | succ i => simp [bytesH] at hb
  · cases i with
    | zero => simp only [bytesH, List.getElem?_cons_zero, Option.some.injEq] at hi; subst hi; cases hm
    | succ i => simp [bytesH] at hi
theorem holdsB {W : World} {b off len cap : Nat} {xs : List Int} (hx : xs.length = len) (hc : len ≤ cap) (hcell : ∀ (i : Nat) x, xs[i]? = some x → W.cell? ⟨b, off + i, none⟩ = some (.int .u8 x)) : Holds (envS b off len cap) (bytesH xs) W := by
  have h := soft_holds (holdsS (k := .u8) hx hc hcell)
  exact h
theorem okU_of {ws : List Int} (hw : ∀ n ∈ ws, (Lit.int .u8 n).wf = true) : allU ws = true := by
  rw [allU_iff]
  intro c hc
  have := hw c hc
  simp only [Lit.wf, IntKind.min, IntKind.max, IntKind.signed, IntKind.bits, Bool.and_eq_true] at this
  simp at this
  omega
theorem open_bytes {H : Type} {enc : TypeId × Value → H} {W : World} {base : Nat} {ba : Option Addr} {n c : Nat} {d : DataW H} {p : List MemPlace} (h : DataW.Trod enc Try.prog W base (fun _ => true) true 24 (.slice ba n c) d p) :
    ∃ (ws : List Int) (E : Env), allU ws = true ∧ Holds E (bytesH ws) W ∧ conc E (.gs 0) = .slice ba n c := by
  obtain ⟨fuel, hf⟩ := h
  rcases open_ints Try.underlying24 Try.underlying5 (by kernel_rfl) hf with ⟨hcs, _⟩ | ⟨a, len, cap, zs, hcs, _, hl, hm, hz, _, hcell, hwz⟩
  · have hv1 := slice_cells hcs
    cases hv1
    exact ⟨[], envZ none, rfl, holdsZB none, rfl⟩
  · have hv1 := slice_cells hcs
    obtain ⟨e1, e2, e3⟩ : some a = ba ∧ len = n ∧ cap = c := by simp only [Value.slice.injEq] at hv1; exact ⟨hv1.1.symm, hv1.2.1.symm, hv1.2.2.symm⟩
    subst e1; subst e2; subst e3
    simp only [if_true] at hz
    rcases Nat.eq_zero_or_pos cap with hc0 | hc0
    · subst hc0
      obtain rfl : len = 0 := by omega
      exact ⟨[], envZ (some a), rfl, holdsZB (some a), rfl⟩
    · obtain ⟨b, off, rfl, hat⟩ := ints_at hcell (by omega)
      refine ⟨zs.take len, envS b off len cap, okU_of (fun n hn => hwz n (List.mem_of_mem_take hn)), holdsB (by rw [List.length_take]; omega) hl (fun i x hi => ?_), by simp [conc, envS]⟩
      rw [List.getElem?_take] at hi
      split at hi
      · have hlt := getElem?_lt hi
        rw [hat i hlt, List.getD_eq_getElem?_getD, hi]
        rfl
      · cases hi
theorem calls_bytes {O : Oracle} (hO : OracleOk Try.prog O) {L : Loops} (hL : loopsOk Try.prog L) {N : Nat} {f : FuncId} {fn : Func} (hf : Try.prog.funcs[f]? = some fn) {args : List V} {ws : List Int} (he : evalFn Try.prog O L N f fn args (bytesH ws) (fun v _ => some v) = some (.bool true)) {E : Env} {W : World} (hh : Holds E (bytesH ws) W) (hin : inSs (bytesH ws).length args = true) :
    Calls Try.prog f (concs E args).toArray W fun e w' => e = .returned (.bool true) ∧ RowKit.Below W.heap.size W w' := by
  obtain ⟨v1, h1, hk, hok⟩ := evalFn_ok hO mixed hf hL he
  cases hk
  refine (hok E W hh hin).mono ?_
  rintro e w' ⟨x, E', rfl, hx, _, ht⟩
  exact ⟨by rw [hx.bool], ht.below_ro bytes_ro⟩
end Go.Proofs.Ytojlmpcbplepcaa
