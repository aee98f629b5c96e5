/- ENGINE, PART 14: what a loop comes to, for a family of states at its head. -/
import Derived.Test.YtnbfnoomhlamnaaEngTmpl
namespace Go.Eng
open Go

noncomputable def codesB (l : List (Code × Code)) : Bool := @decide (codesOk l) (Classical.propDecidable _)
theorem codesB_iff {l : List (Code × Code)} : codesB l = true ↔ codesOk l := by
  unfold codesB
  exact @decide_eq_true_iff _ (Classical.propDecidable _)

noncomputable def lsum (T : Tm) (body : Code) (inv : List PV → Bool) (fin : List PV → XE × AS) : LoopSum := fun _ b s k => match T.match s with
  | some (ps, c) => match Nat.beq s.heap.length T.blks.length with
    | true => cond (codesB ((body, b) :: c)) (cond (inv ps) (k (fin ps).1 (fin ps).2) none) none
    | false => none
  | none => none

theorem lsum_ok {P : Program} {T : Tm} {body : Code} {inv : List PV → Bool} {fin : List PV → XE × AS} (hk : T.ok = true) (H : ∀ rd ps, inv ps = true → SimC P rd (.loop body) (T.at ps) (fin ps).1 (fin ps).2) : LoopOk P (lsum T body inv fin) := by
  intro R b s k r hr
  unfold lsum at hr
  split at hr
  · rename_i ps c hm
    split at hr
    · rename_i hl
      have hl := Nat.eq_of_beq_eq_true hl
      cases hc : codesB ((body, b) :: c) with
      | false => rw [hc] at hr; cases hr
      | true =>
        rw [hc, cond_true] at hr
        rw [codesB_iff] at hc
        have hb : body = b := hc (body, b) (by simp)
        subst hb
        cases hi : inv ps with
        | false => rw [hi] at hr; cases hr
        | true =>
          rw [hi, cond_true] at hr
          exact ⟨_, _, hr, fun rd => (H rd ps hi).pre (T.match_ok hm (fun x hx => hc x (by simp [hx])) hk) (by rw [T.at_len, hl])⟩
    · cases hr
  · cases hr

/-- One round, run by the engine, from a state of the family. -/
def roundOut (P : Program) (C : Oracle) (L : Loops) (N : Nat) (rd : Option Nat) (me : FuncId) (c : Code) (s : AS) : Option (XE × AS) := evalCode P C L N rd me c s (fun e s => some (e, s))
theorem round_sim {P : Program} {C : Oracle} {L : Loops} {N : Nat} {rd : Option Nat} {me : FuncId} {c : Code} {s s' : AS} {e : XE} (hC : OracleOk P C) (hm : P.follows .mixedOrders = true) (hl : loopsOk P L) (h : roundOut P C L N rd me c s = some (e, s')) : SimC P rd c s e s' := by
  obtain ⟨e1, s1, h1, h2⟩ := evalCode_ok hC hm hl h
  cases h1
  exact h2

/-- One round, and what it comes to within the family. -/
def roundT (P : Program) (C : Oracle) (L : Loops) (N : Nat) (rd : Option Nat) (me : FuncId) (c : Code) (T T' : Tm) (ps : List PV) : Option (XE × List PV × List (Code × Code)) := evalCode P C L N rd me c (T.at ps) (fun e s => match e with
  | .normal => match T.match s with
    | some a => some (e, a)
    | none => none
  | e => match T'.match s with
    | some a => some (e, a)
    | none => none)
theorem roundT_sim {P : Program} {C : Oracle} {L : Loops} {N : Nat} {rd : Option Nat} {me : FuncId} {c : Code} {T T' : Tm} {ps qs : List PV} {e : XE} {l : List (Code × Code)} (hC : OracleOk P C) (hm : P.follows .mixedOrders = true) (hl : loopsOk P L) (hk : T.ok = true) (hk' : T'.ok = true)
    (hlen : Nat.ble T.blks.length T'.blks.length = true) (h : roundT P C L N rd me c T T' ps = some (e, qs, l)) (hc : codesOk l) : (e = .normal → SimC P rd c (T.at ps) e (T.at qs)) ∧ (e ≠ .normal → SimC P rd c (T.at ps) e (T'.at qs)) := by
  have hlen' := Nat.le_of_ble_eq_true hlen
  obtain ⟨e1, s1, h1, h2⟩ := evalCode_ok hC hm hl h
  have main : ∀ {U : Tm}, U.ok = true → T.blks.length ≤ U.blks.length → U.match s1 = some (qs, l) → SimC P rd c (T.at ps) e1 (U.at qs) := fun {U} hU hle hma =>
    h2.post (U.match_ok hma hc hU) (by rw [T.at_len, U.at_len]; exact hle)
  cases e1 with
  | normal =>
    simp only at h1
    split at h1
    · rename_i a ha
      cases h1
      exact ⟨fun _ => main hk (Nat.le_refl _) ha, fun hne => absurd rfl hne⟩
    · cases h1
  | exit id =>
    simp only at h1
    split at h1
    · rename_i a ha
      cases h1
      exact ⟨fun he => (by cases he), fun _ => main hk' hlen' ha⟩
    · cases h1
  | ret =>
    simp only at h1
    split at h1
    · rename_i a ha
      cases h1
      exact ⟨fun he => (by cases he), fun _ => main hk' hlen' ha⟩
    · cases h1

/-- A loop whose rounds the engine has run: over a family in X. -/
theorem loop_of_rounds {P : Program} {C : Oracle} {L : Loops} {N : Nat} {rd : Option Nat} {me : FuncId} {c : Code} {T T' : Tm} (hC : OracleOk P C) (hm : P.follows .mixedOrders = true) (hl : loopsOk P L) (hk : T.ok = true) (hk' : T'.ok = true) (hlen : Nat.ble T.blks.length T'.blks.length = true)
    {X : Type} (enc : X → List PV) (inv : X → Prop) (μ : X → Nat) (fin : X → XE × List PV)
    (round : ∀ x, inv x → ∃ e qs l, roundT P C L N rd me c T T' (enc x) = some (e, qs, l) ∧ codesOk l ∧
      ((e = .normal ∧ ∃ y, qs = enc y ∧ inv y ∧ μ y < μ x ∧ fin y = fin x) ∨ (e ≠ .normal ∧ (e, qs) = fin x))) :
    ∀ x, inv x → SimC P rd (.loop c) (T.at (enc x)) (fin x).1 (T'.at (fin x).2) := by
  have hlen' := Nat.le_of_ble_eq_true hlen
  refine loop_ind (fun x => T.at (enc x)) inv μ (fun x => ((fin x).1, T'.at (fin x).2)) (fun x _ => by rw [T.at_len, T'.at_len]; exact hlen') (fun x hx => ?_)
  obtain ⟨e, qs, l, h1, h2, h3⟩ := round x hx
  obtain ⟨q1, q2⟩ := roundT_sim hC hm hl hk hk' hlen h1 h2
  rcases h3 with ⟨rfl, y, rfl, hy, hlt, hf⟩ | ⟨hne, hf⟩
  · refine ⟨.normal, _, q1 rfl, .inl ⟨rfl, y, ⟨rfl, fun i v hi => ?_, Nat.le_refl _, fun b blk hb => ?_, rfl, fun b hb => ?_⟩, by rw [T.at_len, T.at_len], hy, hlt, by rw [hf]⟩⟩
    · have hk2 := hk
      simp only [Tm.ok, Bool.and_eq_true] at hk2
      rw [T.at_len]
      rcases scopeS_ok hk2.1.1 i v hi with h | h
      · exact .inl h
      · exact .inr ⟨hi, h⟩
    · rw [T.at_len]
      exact ⟨blk, hb, .same _ (T.at_in hk b blk hb)⟩
    · rw [T.at_len]
      simp only [Tm.ok, Bool.and_eq_true, List.all_eq_true] at hk
      have := hk.2 b hb
      simpa using this
  · rw [← hf]
    refine ⟨e, _, q2 hne, .inr ⟨hne, rfl, ⟨rfl, fun i v hi => ?_, Nat.le_refl _, fun b blk hb => ?_, rfl, fun b hb => ?_⟩⟩⟩
    · have hk2 := hk'
      simp only [Tm.ok, Bool.and_eq_true] at hk2
      rw [T'.at_len]
      rcases scopeS_ok hk2.1.1 i v hi with h | h
      · exact .inl h
      · exact .inr ⟨hi, h⟩
    · rw [T'.at_len]
      exact ⟨blk, hb, .same _ (T'.at_in hk' b blk hb)⟩
    · rw [T'.at_len]
      simp only [Tm.ok, Bool.and_eq_true, List.all_eq_true] at hk'
      have := hk'.2 b hb
      simpa using this

/-- Pieces of a function's code, by the number of their first region. -/
def findLoop (n : Nat) : Code → Option Code
  | .seq a b => match findLoop n a with
    | some c => some c
    | none => findLoop n b
  | .cond _ a b => match findLoop n a with
    | some c => some c
    | none => findLoop n b
  | .block _ b => findLoop n b
  | .loop b => match Nat.beq (firstReg b) n with
    | true => some b
    | false => findLoop n b
  | .rangeFunc _ _ a b => match findLoop n a with
    | some c => some c
    | none => findLoop n b
  | _ => none
def loopOf (n : Nat) (fn : Func) : Code := match fn.body with
  | some c => match findLoop n c with
    | some b => b
    | none => .skip
  | none => .skip
def findRange (n : Nat) : Code → Option (Code × Code)
  | .seq a b => match findRange n a with
    | some c => some c
    | none => findRange n b
  | .cond _ a b => match findRange n a with
    | some c => some c
    | none => findRange n b
  | .block _ b => findRange n b
  | .loop b => findRange n b
  | .rangeFunc _ _ a b => match Nat.beq (firstReg b) n with
    | true => some (a, b)
    | false => findRange n b
  | _ => none
def rangeA (n : Nat) (fn : Func) : Code := match fn.body with
  | some c => match findRange n c with
    | some b => b.1
    | none => .skip
  | none => .skip
def rangeB (n : Nat) (fn : Func) : Code := match fn.body with
  | some c => match findRange n c with
    | some b => b.2
    | none => .skip
  | none => .skip
/-- Loops of one function. -/
def sums (l : Nat → Option LoopSum) : Loops := ⟨l, fun _ => none⟩
end Go.Eng
