/- Texts merged: FrameA, FrameT. -/
import Derived.Test.YtojlmpcbplepcaaMd3
import Derived.Test.YtojlmpcbplepcaaEng4
import Derived.Test.YtojlmpcbplepcaaEng5
import Derived.Test.YtojlmpcbplepcaaWk
/- Chapter 10: the frame of a law over a slice of acts. -/
namespace Go.Proofs.Ytojlmpcbplepcaa
open Go Go.Eng Go.ChangeShapes Go.WideShapes Go.ChangeAt Go.RowKit Go.WideMaps
set_option linter.unusedVariables false
theorem own10 : ownKnob Try.prog.godebug = none := by kernel_rfl
theorem laidOut10 : laidOutB Try.prog = true := by kernel_rfl
theorem tri10 : TriKey Try.prog 41 5 := ⟨⟨_, Try.underlying41, by kernel_rfl⟩, by kernel_rfl, by kernel_rfl⟩
def envZ (a : Option Addr) : Env := { blk := fun _ => 0, delta := fun _ => 0, len := fun _ => 0, cap := fun _ => 0, isnil := fun _ => true, base := fun _ => a }
theorem holdsZ {W : World} (a : Option Addr) : Holds (envZ a) (actsH false []) W := by
  refine ⟨fun i blk hb => ?_, fun i j x y hi _ hm => ?_⟩
  · cases i with
    | zero =>
      simp only [actsH, List.getElem?_cons_zero, Option.some.injEq] at hb
      subst hb
      exact ⟨rfl, by omega, rfl, Nat.le_refl _, fun _ => ⟨rfl, rfl⟩, fun h => by cases h⟩
    | succ i => simp [actsH] at hb
  · cases i with
    | zero => simp only [actsH, List.getElem?_cons_zero, Option.some.injEq] at hi; subst hi; cases hm
    | succ i => simp [actsH] at hi
theorem holdsA {W : World} {b off len cap : Nat} {xs : List Int} (hx : xs.length = 3 * len) (hc : len ≤ cap) (hcell : ∀ (i : Nat) x, xs[i]? = some x → W.cell? ⟨b, off + i, none⟩ = some (.int .u8 x)) : Holds (envS b off len cap) (actsH false xs) W := by
  have h := soft_holds (holdsTri (k := .u8) hx hc hcell)
  exact h
theorem okW_of {ws : List Int} (hl : ws.length % 3 = 0) (hw : ∀ n ∈ ws, (Lit.int .u8 n).wf = true) : okW ws = true := by
  refine okW_iff.2 ⟨hl, ?_⟩
  rw [allU_iff]
  intro c hc
  have := hw c hc
  simp only [Lit.wf, IntKind.min, IntKind.max, IntKind.signed, IntKind.bits, Bool.and_eq_true] at this
  simp at this
  omega
theorem u8_pos {a : Int} (w : (Lit.int .u8 a).wf = true) : 0 ≤ a := by
  simp only [Lit.wf, IntKind.min, IntKind.max, IntKind.signed, IntKind.bits, Bool.and_eq_true] at w
  simp at w
  omega
/-- A slice of acts that came in, as a block. -/
theorem open_acts {H : Type} {enc : TypeId × Value → H} {W : World} {base : Nat} {ba : Option Addr} {n c : Nat} {d : DataW H} {p : List MemPlace} (h : DataW.Trod enc Try.prog W base (fun _ => true) true 22 (.slice ba n c) d p) :
    ∃ (ws : List Int) (E : Env), okW ws = true ∧ Holds E (actsH false ws) W ∧ conc E (.gs 0) = .slice ba n c := by
  obtain ⟨fuel, hf⟩ := h
  rcases open_tris Try.underlying22 tri10 Try.underlying5 hf with hcs | ⟨a, len, cap, zs, hcs, hl, hm, hz, hcell, hwz⟩
  · have hv1 := slice_cells hcs
    cases hv1
    exact ⟨[], envZ none, rfl, holdsZ none, rfl⟩
  · have hv1 := slice_cells hcs
    obtain ⟨e1, e2, e3⟩ : some a = ba ∧ len = n ∧ cap = c := by simp only [Value.slice.injEq] at hv1; exact ⟨hv1.1.symm, hv1.2.1.symm, hv1.2.2.symm⟩
    subst e1; subst e2; subst e3
    rcases Nat.eq_zero_or_pos cap with hc0 | hc0
    · subst hc0
      obtain rfl : len = 0 := by omega
      exact ⟨[], envZ (some a), rfl, holdsZ (some a), rfl⟩
    · obtain ⟨b, off, rfl, hat⟩ := ints_at hcell (by omega)
      refine ⟨zs.take (3 * len), envS b off len cap, okW_of (by rw [List.length_take]; omega) (fun n hn => hwz n (List.mem_of_mem_take hn)), holdsA (by rw [List.length_take]; omega) hl (fun i x hi => ?_), by simp [conc, envS]⟩
      rw [List.getElem?_take] at hi
      split at hi
      · have hlt := getElem?_lt hi
        rw [hat i hlt, List.getD_eq_getElem?_getD, hi]
        rfl
      · cases hi
theorem calls_acts {O : Oracle} (hO : OracleOk Try.prog O) {L : Loops} (hL : loopsOk Try.prog L) {N : Nat} {f : FuncId} {fn : Func} (hf : Try.prog.funcs[f]? = some fn) {args : List V} {ws : List Int} (he : evalFn Try.prog O L N f fn args (actsH false ws) (fun v _ => some v) = some (.bool true)) {E : Env} {W : World} (hh : Holds E (actsH false ws) W) (hin : inSs 1 args = true) :
    Calls Try.prog f (concs E args).toArray W fun e w' => e = .returned (.bool true) ∧ RowKit.Below W.heap.size W w' := by
  obtain ⟨v1, h1, hk, hok⟩ := evalFn_ok hO mixed hf hL he
  cases hk
  refine (hok E W hh hin).mono ?_
  rintro e w' ⟨x, E', rfl, hx, _, ht⟩
  exact ⟨by rw [hx.bool], ht.below_ro acts_ro⟩
end Go.Proofs.Ytojlmpcbplepcaa

/- Chapter 10: the frame of a law whose switch is known as a whole. -/
namespace Go.Proofs.Ytojlmpcbplepcaa
open Go Go.Eng Go.ChangeShapes Go.WideShapes Go.ChangeAt Go.RowKit Go.WideMaps
theorem calls_top {O : Oracle} (hO : OracleOk Try.prog O) {L : Loops} (hL : loopsOk Try.prog L) {B : Nat → Nat → Option LoopSum} (hB : ∀ id n f, B id n = some f → CutOk Try.prog id f) {N : Nat} {f : FuncId} {fn : Func} (hf : Try.prog.funcs[f]? = some fn) {args : List V} {ws : List Int} (he : topFn Try.prog O L N B f fn args (actsH false ws) (fun v _ => some v) = some (.bool true)) {E : Env} {W : World} (hh : Holds E (actsH false ws) W) (hin : inSs 1 args = true) :
    Calls Try.prog f (concs E args).toArray W fun e w' => e = .returned (.bool true) ∧ RowKit.Below W.heap.size W w' := by
  obtain ⟨v1, h1, hk, hok⟩ := topFn_ok hO mixed hB hf hL he
  cases hk
  refine (hok E W hh hin).mono ?_
  rintro e w' ⟨x, E', rfl, hx, _, ht⟩
  exact ⟨by rw [hx.bool], ht.below_ro acts_ro⟩
theorem u8_rg {a : Int} (w : (Lit.int .u8 a).wf = true) : 0 ≤ a ∧ a < 256 := by
  simp only [Lit.wf, IntKind.min, IntKind.max, IntKind.signed, IntKind.bits, Bool.and_eq_true] at w
  simp at w
  omega
end Go.Proofs.Ytojlmpcbplepcaa
