/- ENGINE, PART 19: a function of small numbers, looked at number by number. -/
import Derived.Test.YtbocdcnkmcejjaaDoorEngShelf
namespace Go.Eng
open Go
def allN : Nat → (Nat → Bool) → Bool
  | 0, _ => true
  | n + 1, p => p n && allN n p
theorem allN_ok {p : Nat → Bool} : ∀ {n : Nat}, allN n p = true → ∀ i, i < n → p i = true
  | 0, _, i, h => by omega
  | n + 1, h, i, hi => by
    simp only [allN, Bool.and_eq_true] at h
    rcases Nat.lt_or_ge i n with hlt | hge
    · exact allN_ok h.2 i hlt
    · rw [show i = n by omega]; exact h.1
def runB : Option Bool → Bool
  | some b => b
  | none => false
theorem runB_ok {o : Option Bool} (h : runB o = true) : o = some true := by
  cases o with
  | none => cases h
  | some b => cases b with
    | false => cases h
    | true => rfl
def eqS (a b : ByteArray) : Bool := decide (a.data.toList = b.data.toList)
theorem eqS_ok {a b : ByteArray} (h : eqS a b = true) : a = b := by
  simp only [eqS, decide_eq_true_eq] at h
  exact ByteArray.ext (Array.ext' h)
def eqI (a b : Int) : Bool := decide (a = b)
theorem eqI_ok {a b : Int} (h : eqI a b = true) : a = b := of_decide_eq_true h
theorem pure_of_check {P : Program} {C : Oracle} {L : Loops} {N : Nat} {f : FuncId} {fn : Func} {args : List V} {v : V} {chk : V → Bool} (hC : OracleOk P C) (hm : P.follows .mixedOrders = true) (hf : P.funcs[f]? = some fn) (hb : enterB fn = true)
    (hL : loopsOk P L) (h : runB (evalFn P C L N f fn args [] (fun v _ => some (chk v))) = true) (hc : ∀ u, chk u = true → u = v) (ha : plainVs args = true) (hv : plainV v = true) : FnPure P f args v := by
  obtain ⟨v', h', hk, hok⟩ := evalFn_ok hC hm hf hL (runB_ok h)
  simp only [Option.some.injEq] at hk
  rw [hc v' hk] at hok
  exact ⟨.of hf hb, fun h => hok.pure ha hv h⟩
/-- Two results. -/
def chkIS (k : IntKind) (s : ByteArray) (e : Int) : V → Bool
  | .tuple [.str s', .int k' e'] => decide (k = k') && (eqS s' s && eqI e' e)
  | _ => false
theorem chkIS_ok {k : IntKind} {s : ByteArray} {e : Int} {v : V} (h : chkIS k s e v = true) : v = .tuple [.str s, .int k e] := by
  unfold chkIS at h
  split at h
  · simp only [Bool.and_eq_true, decide_eq_true_eq] at h
    rw [h.1, eqS_ok h.2.1, eqI_ok h.2.2]
  · cases h
def chkB (b : Bool) : V → Bool
  | .bool b' => decide (b' = b)
  | _ => false
theorem chkB_ok {b : Bool} {v : V} (h : chkB b v = true) : v = .bool b := by
  unfold chkB at h
  split at h
  · rw [of_decide_eq_true h]
  · cases h
def chkIIB (k : IntKind) (a b : Int) (r : Bool) : V → Bool
  | .tuple [.int k1 a', .int k2 b', .bool r'] => (decide (k = k1) && decide (k = k2)) && (eqI a' a && (eqI b' b && decide (r' = r)))
  | _ => false
theorem chkIIB_ok {k : IntKind} {a b : Int} {r : Bool} {v : V} (h : chkIIB k a b r v = true) : v = .tuple [.int k a, .int k b, .bool r] := by
  unfold chkIIB at h
  split at h
  · simp only [Bool.and_eq_true, decide_eq_true_eq] at h
    obtain ⟨⟨rfl, rfl⟩, h1, h2, h3⟩ := h
    rw [eqI_ok h1, eqI_ok h2, h3]
  · cases h
def chkII (k1 k2 : IntKind) (a b : Int) : V → Bool
  | .tuple [.int k1' a', .int k2' b'] => (decide (k1 = k1') && decide (k2 = k2')) && (eqI a' a && eqI b' b)
  | _ => false
theorem chkII_ok {k1 k2 : IntKind} {a b : Int} {v : V} (h : chkII k1 k2 a b v = true) : v = .tuple [.int k1 a, .int k2 b] := by
  unfold chkII at h
  split at h
  · simp only [Bool.and_eq_true, decide_eq_true_eq] at h
    obtain ⟨⟨rfl, rfl⟩, h1, h2⟩ := h
    rw [eqI_ok h1, eqI_ok h2]
  · cases h
end Go.Eng
