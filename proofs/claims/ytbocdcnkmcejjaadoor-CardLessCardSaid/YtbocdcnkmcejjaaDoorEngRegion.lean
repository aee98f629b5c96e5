/- ENGINE, PART 6: calls; regions, in order and in whatever order. -/
import Derived.Test.YtbocdcnkmcejjaaDoorEngOpsMem
import Derived.RangeFuncRecord
import Derived.RangeFuncSeq
import Derived.RangeFuncCalls
namespace Go.Eng
open Go

/-- What a call of a function does, over abstract values. -/
def EndsIn (E : Env) (W : World) (h : List Blk) (v : V) (h' : List Blk) (e : Ending) (W' : World) : Prop := ∃ x E', e = .returned x ∧ VR E' h'.length v x ∧ Holds E' h' W' ∧ Trans E h W E' h' W'
def FnOK (P : Program) (f : FuncId) (args : List V) (h : List Blk) (v : V) (h' : List Blk) : Prop :=
  ∀ E W, Holds E h W → inSs h.length args = true → Calls P f (concs E args).toArray W (EndsIn E W h v h')
/-- A round of a range over a function. -/
def RoundOK (P : Program) (b : Nat) (args : List V) (h : List Blk) (v : V) (h' : List Blk) : Prop :=
  ∀ E W, Holds E h W → inSs h.length args = true → b < h.length → YieldAt (fen none) 0 P (E.blk b) (concs E args).toArray W (EndsIn E W h v h')
/-- A function with a Go body. -/
def Enterable (P : Program) (f : FuncId) : Prop := ∃ fn, P.funcs[f]? = some fn ∧ (fn.name == "runtime.NumGoroutine") = false ∧ fn.body.isNone = false

inductive Tgt where
  | fn (f : FuncId)
  | yield (b : Nat)
def TgtOK (P : Program) : Tgt → List V → List Blk → V → List Blk → Prop
  | .fn f, args, h, v, h' => FnOK P f args h v h'
  | .yield b, args, h, v, h' => RoundOK P b args h v h'
def TgtEnt (P : Program) : Tgt → Prop
  | .fn f => Enterable P f
  | .yield _ => True
abbrev Oracle := (R : Type) → Tgt → List V → List Blk → KOp R → Option R
def OracleOk (P : Program) (C : Oracle) : Prop := ∀ (R : Type) t args h (K : KOp R) r, C R t args h K = some r →
  ∃ v rd eff, K v rd eff = some r ∧ Same h h rd eff ∧ TgtEnt P t ∧ ∀ h2, Same h h2 rd eff → TgtOK P t args h2 v (eff.app h2)

section
variable {R : Type} {P : Program} {o : Oper} {ev : Operand → V} {h : List Blk} {K : KOp R} {C : Oracle}

def appV : List V → List V → List V
  | [], m => m
  | v :: r, m => v :: appV r m
theorem appV_eq (l m : List V) : appV l m = l ++ m := by
  induction l with
  | nil => rfl
  | cons v r ih => simp [appV, ih]
def mapEv (ev : Operand → V) : List Operand → List V
  | [] => []
  | x :: r => ev x :: mapEv ev r
theorem mapEv_eq (l : List Operand) : mapEv ev l = l.map ev := by
  induction l with
  | nil => rfl
  | cons v r ih => simp [mapEv, ih]

def aCall (C : Oracle) (f : V) (args : List V) (h : List Blk) (K : KOp R) : Option R := match f with
  | .func fid caps => match noTop args with
    | true => C R (.fn fid) (appV args caps) h K
    | false => none
  | .yield b => match noTop args with
    | true => C R (.yield b) args h K
    | false => none
  | _ => none
theorem concs_append (E : Env) (l m : List V) : concs E (l ++ m) = concs E l ++ concs E m := by simp [concs_eq]
theorem inSs_append (n : Nat) (l m : List V) : inSs n (l ++ m) = (inSs n l && inSs n m) := by simp [inSs_eq]
theorem ok_call {c : Call} {fo : Operand} (hC : OracleOk P C) (ho : o.op = .call c) (hc : c.callee = .value fo) : AopOk P o ev h (aCall C (ev fo) (mapEv ev c.args.toList) h K) K := by
  intro r hr
  have hops : ∀ {E : Env} {n : Nat} {a : Act}, (∀ x ∈ o.op.operands, VR E n (ev x) (a.eval x)) → ∀ x ∈ fo :: c.args.toList, VR E n (ev x) (a.eval x) := fun hv x hx => hv x (by
    rw [ho]
    simp only [Op.operands, Call.operands, hc, Array.mem_append]
    rcases List.mem_cons.1 hx with e | e
    · exact .inl (by simp [e])
    · exact .inr (by simpa using e))
  unfold aCall at hr
  split at hr
  · rename_i fid caps hf
    split at hr
    · rename_i ht
      obtain ⟨v, rd, eff, hk, hs, ⟨fn, hfn, hname, hbody⟩, H⟩ := hC R _ _ _ _ _ hr
      refine ⟨v, rd, eff, hk, hs, fun h2 hs2 E a W hh hv next Q hnext hd r => ?_⟩
      rw [mapEv_eq] at ht
      have h0 := hops hv fo (by simp)
      rw [hf] at h0
      obtain ⟨e1, e2⟩ := h0.val (by simp)
      obtain ⟨h3, h4⟩ := VRs_map (ev := ev) c.args.toList (fun x hx => hops hv x (by simp [hx])) ht
      have hargs : c.args.map a.eval = (concs E (c.args.toList.map ev)).toArray := by
        rw [← h4]; apply Array.ext'; simp
      have hrun : (execOp a.eval o).run P W = .ok (.enter fid (concs E (mapEv ev c.args.toList ++ caps)).toArray) W := by
        simp only [execOp, ho, resolve, hc, e1, conc, Deferred.ofValue, Sem.run_bind, Sem.run_pure, Result.andThen_ok, invoke, callFunc, run_program, hfn]
        rw [if_neg (by rw [hname]; simp), if_neg (by rw [hbody]; simp)]
        simp only [Sem.run_pure]
        rw [hargs, concs_append, mapEv_eq]
        simp
      refine ⟨fun _ _ => trivial, ?_⟩
      rw [Oper.semAt_eq _ _ _ hd, hrun]
      simp only [inS] at e2
      rw [appV_eq] at H
      have hcall : CallsIn (fen r) 0 P fid (concs E (mapEv ev c.args.toList ++ caps)).toArray W (EndsIn E W h2 v (eff.app h2)) :=
        callsIn_wide.2 (H h2 hs2 E W hh (by rw [inSs_append, mapEv_eq, h3, e2]; rfl))
      refine ⟨fun hx => by simp [fen] at hx, hcall.mono ?_⟩
      rintro e W' ⟨x, E', rfl, hx, hh', ht'⟩
      exact hnext x E' W' hx hh' ht'
    · cases hr
  · rename_i b hf
    split at hr
    · rename_i ht
      obtain ⟨v, rd, eff, hk, hs, _, H⟩ := hC R _ _ _ _ _ hr
      refine ⟨v, rd, eff, hk, hs, fun h2 hs2 E a W hh hv next Q hnext hd r => ?_⟩
      rw [mapEv_eq] at ht
      have h0 := hops hv fo (by simp)
      rw [hf] at h0
      obtain ⟨e1, e2⟩ := h0.val (by simp)
      obtain ⟨h3, h4⟩ := VRs_map (ev := ev) c.args.toList (fun x hx => hops hv x (by simp [hx])) ht
      have hargs : c.args.map a.eval = (concs E (c.args.toList.map ev)).toArray := by
        rw [← h4]; apply Array.ext'; simp
      obtain ⟨fn, tmps, assign, body, hy, hR⟩ := H h2 hs2 E W hh (by rw [mapEv_eq]; exact h3) (by simpa [inS] using e2)
      have hrun : (execOp a.eval o).run P W = .ok (.round (E.blk b) fn tmps assign body) W := by
        simp only [execOp, ho, resolve, hc, e1, conc, Deferred.ofValue, Sem.run_bind, Sem.run_pure, Result.andThen_ok, invoke]
        rw [mapEv_eq] at hy
        simp only [hargs, Array.empty_append]
        exact hy
      refine ⟨fun _ _ => trivial, ?_⟩
      rw [Oper.semAt_eq _ _ _ hd, hrun]
      have hround : RoundIn (fen r) 0 P (E.blk b) fn tmps assign body W (EndsIn E W h2 v (eff.app h2)) := hR
      refine ⟨fun hx => by simp [fen] at hx, hround.mono ?_⟩
      rintro e W' ⟨x, E', rfl, hx, hh', ht'⟩
      exact hnext x E' W' hx hh' ht'
    · cases hr
  · cases hr

/-- Builtins on numbers and lengths. -/
def intsV : List V → Option (IntKind × List Int)
  | [] => none
  | [.int k n] => some (k, [n])
  | .int k n :: r => match intsV r with
    | some (k', l) => match decide (k = k') with
      | true => some (k, n :: l)
      | false => none
    | none => none
  | _ => none
def minI (a b : Int) : Int := bif decide (b < a) then b else a
def maxI (a b : Int) : Int := bif decide (b > a) then b else a
def foldI (f : Int → Int → Int) : Int → List Int → Int
  | a, [] => a
  | a, b :: r => foldI f (f a b) r
theorem intsV_ok : ∀ {l : List V} {k : IntKind} {m : List Int}, intsV l = some (k, m) → l = m.map (.int k) ∧ m ≠ []
  | [], _, _, h => by simp [intsV] at h
  | [v], k, m, h => by
    cases v <;> simp [intsV] at h
    obtain ⟨rfl, rfl⟩ := h
    simp
  | v :: u :: r, k, m, h => by
    cases v <;> simp only [intsV] at h <;> try cases h
    rename_i k0 n
    split at h
    · rename_i k' l hl
      split at h
      · rename_i hk
        simp only [decide_eq_true_eq] at hk
        subst hk
        injection h with h
        obtain ⟨rfl, rfl⟩ := Prod.mk.inj h
        obtain ⟨h1, _⟩ := intsV_ok hl
        exact ⟨by simp [h1], by simp⟩
      · cases h
    · cases h
def aMinMax (f : Int → Int → Int) (args : List V) (K : KOp R) : Option R := match intsV args with
  | some (k, n :: l) => K (.int k (foldI f n l)) [] .none
  | _ => none
theorem run_min (k : IntKind) : ∀ (l : List Int) (a : Int) (W : World), ((l.map (Value.int k)).foldlM Builtin.min2 (Value.int k a)).run P W = .ok (.int k (foldI minI a l)) W
  | [], a, W => rfl
  | b :: r, a, W => by
    simp only [List.map_cons, List.foldlM_cons, Builtin.min2, Sem.run_bind, Sem.run_pure, Result.andThen_ok, foldI]
    rw [show (if b < a then b else a) = minI a b by simp [minI, cond_eq_ite]]
    exact run_min k r _ W
theorem run_max (k : IntKind) : ∀ (l : List Int) (a : Int) (W : World), ((l.map (Value.int k)).foldlM Builtin.max2 (Value.int k a)).run P W = .ok (.int k (foldI maxI a l)) W
  | [], a, W => rfl
  | b :: r, a, W => by
    simp only [List.map_cons, List.foldlM_cons, Builtin.max2, Sem.run_bind, Sem.run_pure, Result.andThen_ok, foldI]
    rw [show (if b > a then b else a) = maxI a b by simp [maxI, cond_eq_ite]]
    exact run_max k r _ W
theorem noTop_ints (k : IntKind) (m : List Int) : noTop (m.map (.int k)) = true := by
  induction m with
  | nil => rfl
  | cons n r ih => simp [noTop, ih]
theorem ok_minmax {c : Call} {b : Builtin} (ho : o.op = .call c) (hc : c.callee = .builtin b) (hb : b = .min ∨ b = .max) :
    AopOk P o ev h (aMinMax (match b with | .min => minI | _ => maxI) (mapEv ev c.args.toList) K) K := by
  intro r hr
  unfold aMinMax at hr
  split at hr
  · rename_i k n l hl
    obtain ⟨h1, _⟩ := intsV_ok hl
    rw [mapEv_eq] at h1
    refine pureOk hr fun m E a W hv => ⟨_, VR.mkInt, ?_⟩
    obtain ⟨_, h4⟩ := VRs_map (ev := ev) c.args.toList (fun x hx => hv x (by
      rw [ho]; simp only [Op.operands, Call.operands, hc, Array.mem_append]; exact .inr (by simpa using hx))) (by rw [h1]; exact noTop_ints _ _)
    have hargs : c.args.toList.map a.eval = (n :: l).map (Value.int k) := by
      rw [h4, h1, concs_eq, List.map_map]; rfl
    have hargs' : (c.args.map a.eval).toList = (n :: l).map (Value.int k) := by rw [← hargs]; simp
    rcases hb with rfl | rfl
    · simp only [execOp, ho, resolve, hc, Sem.run_bind, Sem.run_pure, Result.andThen_ok, invoke, builtin, Builtin.min_, hargs', List.map_cons]
      rw [run_min]; rfl
    · simp only [execOp, ho, resolve, hc, Sem.run_bind, Sem.run_pure, Result.andThen_ok, invoke, builtin, Builtin.max_, hargs', List.map_cons]
      rw [run_max]; rfl
  · cases hr

end
end Go.Eng
