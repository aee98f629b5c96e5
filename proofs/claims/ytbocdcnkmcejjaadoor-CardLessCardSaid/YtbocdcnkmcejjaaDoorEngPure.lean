/- ENGINE, PART 10: functions that are known by their results alone. -/
import Derived.Test.YtbocdcnkmcejjaaDoorEngRun
import Derived.KernelRfl
namespace Go.Eng
open Go

/-- Results of functions that look at no memory of the caller's. -/
abbrev PTab := FuncId → List V → Option (Bool × V)
def FnPure (P : Program) (f : FuncId) (args : List V) (v : V) : Prop := Enterable P f ∧ ∀ h, FnOK P f args h v h
def PTabOk (P : Program) (T : PTab) : Prop := ∀ f args c v, T f args = some (c, v) → c = true → FnPure P f args v
def oracleOf (T : PTab) : Oracle := fun _ t args _ K => match t with
  | .fn f => match T f args with
    | some (c, v) => cond c (K v [] .none) none
    | none => none
  | .yield _ => none
theorem oracleOf_ok {P : Program} {T : PTab} (hT : PTabOk P T) : OracleOk P (oracleOf T) := by
  intro R t args h K r hr
  unfold oracleOf at hr
  split at hr
  · rename_i f
    split at hr
    · rename_i c v hv
      cases c with
      | false => cases hr
      | true =>
        obtain ⟨h1, h2⟩ := hT f args true v hv rfl
        exact ⟨v, [], .none, hr, fun _ hx => (by cases hx), h1, fun h2' _ => h2 h2'⟩
    · cases hr
  · cases hr
def emptyTab : PTab := fun _ _ => none
theorem emptyTab_ok {P : Program} : PTabOk P emptyTab := fun _ _ _ _ h => by cases h
/-- One function more. -/
def addTab (f : FuncId) (g : List V → Option (Bool × V)) (T : PTab) : PTab := fun f' args => cond (Nat.beq f' f) (g args) (T f' args)
theorem addTab_ok {P : Program} {T : PTab} {f : FuncId} {g : List V → Option (Bool × V)} (hg : ∀ args c v, g args = some (c, v) → c = true → FnPure P f args v) (hT : PTabOk P T) : PTabOk P (addTab f g T) := by
  intro f' args c v h hc
  unfold addTab at h
  cases hb : Nat.beq f' f with
  | true =>
    rw [hb] at h
    have := Nat.eq_of_beq_eq_true hb
    subst this
    exact hg args c v h hc
  | false => rw [hb] at h; exact hT f' args c v h hc

def enterB (fn : Func) : Bool := !(fn.name == "runtime.NumGoroutine") && fn.body.isSome
theorem Enterable.of {P : Program} {f : FuncId} {fn : Func} (hf : P.funcs[f]? = some fn) (hb : enterB fn = true) : Enterable P f := by
  unfold enterB at hb
  simp only [Bool.and_eq_true, Bool.not_eq_eq_eq_not, Bool.not_true] at hb
  refine ⟨fn, hf, hb.1, ?_⟩
  cases h : fn.body with
  | none => rw [h] at hb; simp at hb
  | some c => rfl

/-- What the engine has found for a function over plain values. -/
theorem fnPure_of_eval {P : Program} {C : Oracle} {L : Loops} {N : Nat} {f : FuncId} {fn : Func} {args : List V} {v : V} (hC : OracleOk P C) (hm : P.follows .mixedOrders = true) (hf : P.funcs[f]? = some fn) (hb : enterB fn = true)
    (hL : loopsOk P L) (h : evalFn P C L N f fn args [] (fun v _ => some v) = some v) (ha : plainVs args = true) (hv : plainV v = true) : FnPure P f args v := by
  obtain ⟨v', h', hk, hok⟩ := evalFn_ok hC hm hf hL h
  injection hk with hk
  subst hk
  exact ⟨.of hf hb, fun h => hok.pure ha hv h⟩
end Go.Eng
