/- ENGINE, PART 9: code, loops, functions. -/
import Derived.Test.YtbocdcnkmcejjaaDoorEngRangeFn
import Derived.Test.YtbocdcnkmcejjaaDoorEngOpsNil
import Derived.Test.YtbocdcnkmcejjaaDoorEngOpsCopy
import Derived.LoopNIn
import Derived.RangeFuncLeaves
namespace Go.Eng
open Go

abbrev LoopSum := (R : Type) → Nat → Code → AS → KC R → Option (Option R)
/-- Loops that are known as a whole, by the number of the first region in their body; branches that are taken for granted, by the number of the first region of the first one. -/
structure Loops where
  sum : Nat → Option LoopSum
  dec : Nat → Option Bool

section
variable {R : Type} (P : Program) (C : Oracle) (L : Loops) (N : Nat) (n0 : Nat) (rd : Option Nat) (me : FuncId)

def aop (o : Oper) (ev : Operand → V) (h : List Blk) (K : KOp R) : Option R :=
  match o.op with
  | .move x => K (ev x) [] .none
  | .assign x => K (ev x) [] .none
  | .pick c a b => aPick (ev c) (ev a) (ev b) K
  | .alloc t => aAlloc P t h K
  | .box t x => aBox t (ev x) h K
  | .load t a => aLoad P t (ev a) h K
  | .store t a x => aStore P t (ev a) (ev x) h K
  | .nilCheck x => aNilCheck (ev x) K
  | .binOp op t x y _ => aBinX P op t (ev x) (ev y) h K
  | .unOp op _ x => aUn op (ev x) K
  | .convert src dst x => aConv P src dst (ev x) h K
  | .makeFunc fn first caps => aMakeFunc fn first (mapEv ev caps.toList) K
  | .fieldAddr t x f => aFieldAddr P t (ev x) f K
  | .field t x f => aField P t (ev x) f K
  | .indexAddr t x i => aIndexAddr P t (ev x) (ev i) h K
  | .index t x i => aIndex P t (ev x) (ev i) K
  | .extract t i => aExtract (ev t) i K
  | .build t parts => aBuild P t (partsEv ev parts.toList) K
  | .buildSlice t len parts => aBuildSlice P t len (partsEv ev parts.toList) h K
  | .makeSlice t len cap => aMake P t (ev len) (ev cap) h K
  | .slice t x low high max => aSlice P t (ev x) (optE ev low) (optE ev high) (optE ev max) h K
  | .call c => match c.callee with
    | .value f => aCall C (ev f) (mapEv ev c.args.toList) h K
    | .builtin .min => aMinMax minI (mapEv ev c.args.toList) K
    | .builtin .max => aMinMax maxI (mapEv ev c.args.toList) K
    | .builtin .len => match c.args.toList, c.argTypes.toList with
      | [x], t :: _ => aLen P t (ev x) h K
      | _, _ => none
    | .builtin .append => match c.args.toList, c.argTypes.toList with
      | [s, x], t :: u :: _ => aAppend P t u (ev s) (ev x) h K
      | _, _ => none
    | .builtin .copy => match c.args.toList, c.argTypes.toList with
      | [s, x], t :: _ :: _ => aCopy P t (ev s) (ev x) h K
      | _, _ => none
    | _ => none
  | _ => none

def getOp : List Oper → Nat → Option Oper
  | [], _ => none
  | o :: _, 0 => some o
  | _ :: r, n + 1 => getOp r n

def doIt (o : Oper) (s : AS) (k : Did → AS → Option R) : Option R :=
  aop P C o (evalV s.tmps) s.heap (fun v rd eff => k ⟨v, rd, eff, true⟩ ⟨putV s.tmps o.dst v, eff.app s.heap, s.marks⟩)
def skipIt (o : Oper) (s : AS) (k : Did → AS → Option R) : Option R :=
  k ⟨undefV, [], .none, false⟩ ⟨putV s.tmps o.dst undefV, s.heap, s.marks⟩
def runOp (ops : List Oper) (o : Oper) (s : AS) (k : Did → AS → Option R) : Option R :=
  match o.guard with
  | none => doIt P C o s k
  | some (j, want) => match getOp ops j with
    | none => skipIt o s k
    | some oj => match oj.dst with
      | none => skipIt o s k
      | some d => match getV s.tmps d with
        | .bool b => cond b
            (cond want (doIt P C o ⟨setV s.tmps d (.bool true), s.heap, s.marks⟩ k) (skipIt o ⟨setV s.tmps d (.bool true), s.heap, s.marks⟩ k))
            (cond want (skipIt o ⟨setV s.tmps d (.bool false), s.heap, s.marks⟩ k) (doIt P C o ⟨setV s.tmps d (.bool false), s.heap, s.marks⟩ k))
        | .tuple [] => skipIt o s k
        | _ => none
def runOps (ops : List Oper) : List Oper → Nat → AS → (AS → List (Nat × Oper × Did) → Option R) → Option R
  | [], _, s, k => k s []
  | o :: r, i, s, k => runOp P C ops o s (fun x s' => runOps ops r (i + 1) s' (fun e l => k e ((i, o, x) :: l)))

def refineS (c : Operand) (b : Bool) (s : AS) : AS := match c with
  | .tmp t => ⟨setV s.tmps t (.bool b), s.heap, s.marks⟩
  | _ => s

def loopN (f : AS → KC R → Option R) : Nat → AS → KC R → Option R
  | 0, _, _ => none
  | n + 1, s, k => f s (fun e s' => match e with
    | .normal => loopN f n s' k
    | e => k e s')

def firstReg : Code → Nat
  | .region id _ _ => id
  | .seq a _ => firstReg a
  | .block _ b => firstReg b
  | .loop b => firstReg b
  | .cond _ a _ => firstReg a
  | _ => 0

def evalCode : Code → AS → KC R → Option R
  | .skip, s, k => k .normal s
  | .label _, s, k => k .normal s
  | .region _ ops draw, s, k => runOps P C ops.toList ops.toList 0 s (fun e l =>
      cond draw (cond (backB ops.toList 0 && freeB ops (masks ops.toList []) l) (k .normal e) none) (k .normal e))
  | .seq a b, s, k => evalCode a s (fun e s' => match e with
      | .normal => evalCode b s' k
      | e => k e s')
  | .cond c t f, s, k => match evalV s.tmps c with
      | .bool b => match L.dec (firstReg t) with
        | none => cond b (evalCode t (refineS c true s) k) (evalCode f (refineS c false s) k)
        | some true => cond b (evalCode t (refineS c true s) k) none
        | some false => cond b none (evalCode f (refineS c false s) k)
      | _ => none
  | .block id b, s, k => evalCode b s (fun e s' => match e with
      | .exit id' => cond (Nat.beq id' id) (k .normal s') (k (.exit id') s')
      | e => k e s')
  | .loop b, s, k => match L.sum (firstReg b) with
      | some f => match f R n0 b s k with
        | some o => o
        | none => loopN (fun s k => evalCode b s k) N s k
      | none => loopN (fun s k => evalCode b s k) N s k
  | .rangeFunc g ps assign body, s, k => rangeIn C rd me g ps assign body s k
  | .exit id, s, k => k (.exit id) s
  | .ret, s, k => k .ret s
  | _, _, _ => none
end

def LoopOk (P : Program) (f : LoopSum) : Prop := ∀ R n body s k (r : R), f R n body s k = some (some r) → ∃ e s', k e s' = some r ∧ ∀ rd, SimC P n rd (.loop body) s e s'
def loopsOk (P : Program) (L : Loops) : Prop := ∀ n f, L.sum n = some f → LoopOk P f
def noLoops : Loops := ⟨fun _ => none, fun _ => none⟩
theorem noLoops_ok {P : Program} : loopsOk P noLoops := fun _ _ h => by cases h
def decs (d : Nat → Option Bool) : Loops := ⟨fun _ => none, d⟩
theorem decs_ok {P : Program} {d : Nat → Option Bool} : loopsOk P (decs d) := fun _ _ h => by cases h

section
variable {R : Type} {P : Program} {C : Oracle} {L : Loops} {N : Nat} {n0 : Nat} {rd : Option Nat} {me : FuncId}

theorem aop_ok (hC : OracleOk P C) {o : Oper} {ev : Operand → V} {h : List Blk} {K : KOp R} : AopOk P o ev h (aop P C o ev h K) K := by
  unfold aop
  split
  · rename_i ho; exact ok_move ho
  · rename_i ho; exact ok_assign ho
  · rename_i ho; exact ok_pick ho
  · rename_i ho; exact ok_alloc ho
  · rename_i ho; exact ok_box ho
  · rename_i ho; exact ok_load ho
  · rename_i ho; exact ok_store ho
  · rename_i ho; exact ok_nilCheck ho
  · rename_i ho; exact ok_binX ho
  · rename_i ho; exact ok_un ho
  · rename_i ho; exact ok_conv ho
  · rename_i ho; rw [mapEv_eq]; exact ok_makeFunc ho
  · rename_i ho; exact ok_fieldAddr ho
  · rename_i ho; exact ok_field ho
  · rename_i ho; exact ok_indexAddr ho
  · rename_i ho; exact ok_index ho
  · rename_i ho; exact ok_extract ho
  · rename_i ho; exact ok_build ho
  · rename_i ho; exact ok_buildSlice ho
  · rename_i ho; exact ok_make ho
  · rename_i ho; exact ok_slice ho
  · rename_i c ho
    split
    · rename_i f hc; exact ok_call hC ho hc
    · rename_i hc; exact ok_minmax ho hc (.inl rfl)
    · rename_i hc; exact ok_minmax ho hc (.inr rfl)
    · rename_i hc
      split
      · rename_i x t ts h1 h2
        exact ok_len ho hc (by rw [← Array.toArray_toList (xs := c.args), h1]) (by rw [← Array.toArray_toList (xs := c.argTypes), h2]; simp)
      · intro r hr; cases hr
    · rename_i hc
      split
      · rename_i y x t u ts h1 h2
        exact ok_append ho hc (by rw [← Array.toArray_toList (xs := c.args), h1]) (by rw [← Array.toArray_toList (xs := c.argTypes), h2]; simp) (by rw [← Array.toArray_toList (xs := c.argTypes), h2]; simp)
      · intro r hr; cases hr
    · rename_i hc
      split
      · rename_i y x t u ts h1 h2
        exact ok_copy ho hc (by rw [← Array.toArray_toList (xs := c.args), h1]) (by rw [← Array.toArray_toList (xs := c.argTypes), h2]; simp)
      · intro r hr; cases hr
    · intro r hr; cases hr
  · intro r hr; cases hr

theorem getOp_eq (l : List Oper) (i : Nat) : getOp l i = l[i]? := by
  induction l generalizing i with
  | nil => rfl
  | cons u r ih => cases i <;> simp [getOp, ih]
theorem setV_same {l : List V} {d : Nat} {b : Bool} (h : getV l d = .bool b) : setV l d (.bool b) = l := by
  rw [getV_eq] at h
  rw [setV_eq]
  cases hd : l[d]? with
  | none => rw [hd] at h; simp [undefV] at h
  | some v =>
    rw [hd] at h
    simp only [Option.getD_some] at h
    subst h
    obtain ⟨hlt, hv⟩ := List.getElem?_eq_some_iff.1 hd
    rw [← hv]; exact List.set_getElem_self hlt

theorem doIt_ok (hC : OracleOk P C) {ops : List Oper} {o : Oper} {s : AS} {k : Did → AS → Option R} {r : R} (hr : doIt P C o s k = some r) (hg : guardA ops o s.tmps = some true) :
    ∃ x, k x (nextS o s x) = some r ∧ StepOk P ops o s x := by
  obtain ⟨v, rd, eff, hk, hs, hx⟩ := aop_ok hC r hr
  have hnd : ∀ c, o.op ≠ .defer c := fun c hc => by simp [doIt, aop, hc] at hr
  exact ⟨⟨v, rd, eff, true⟩, hk, ⟨hg, fun _ => ⟨hnd, hx, hs⟩, fun h => (by cases h)⟩⟩
theorem skipIt_ok {ops : List Oper} {o : Oper} {s : AS} {k : Did → AS → Option R} {r : R} (hr : skipIt o s k = some r) (hg : guardA ops o s.tmps = some false) :
    ∃ x, k x (nextS o s x) = some r ∧ StepOk P ops o s x :=
  ⟨⟨undefV, [], .none, false⟩, hr, ⟨hg, fun h => (by cases h), fun _ => ⟨rfl, rfl, rfl⟩⟩⟩
theorem runOp_ok (hC : OracleOk P C) {ops : List Oper} {o : Oper} {s : AS} {k : Did → AS → Option R} {r : R} (hr : runOp P C ops o s k = some r) :
    ∃ x, k x (nextS o s x) = some r ∧ StepOk P ops o s x := by
  unfold runOp at hr
  split at hr
  · rename_i hg; exact doIt_ok hC hr (by simp [guardA, hg])
  · rename_i j want hg
    rw [getOp_eq] at hr
    split at hr
    · rename_i hj; exact skipIt_ok hr (by simp [guardA, hg, hj])
    · rename_i oj hj
      split at hr
      · rename_i hd; exact skipIt_ok hr (by simp [guardA, hg, hj, hd])
      · rename_i d hd
        split at hr
        · rename_i b hb
          have hga : guardA ops o s.tmps = some (eqB b want) := by simp [guardA, hg, hj, hd, hb]
          cases b
          · simp only [cond_false, setV_same hb] at hr
            cases want
            · exact doIt_ok hC hr hga
            · exact skipIt_ok hr hga
          · simp only [cond_true, setV_same hb] at hr
            cases want
            · exact skipIt_ok hr hga
            · exact doIt_ok hC hr hga
        · rename_i hb; exact skipIt_ok hr (by simp [guardA, hg, hj, hd, hb])
        · cases hr
theorem runOps_ok (hC : OracleOk P C) {ops : List Oper} : ∀ {rest : List Oper} {i : Nat} {s : AS} {k : AS → List (Nat × Oper × Did) → Option R} {r : R}, runOps P C ops rest i s k = some r → ops.drop i = rest →
    ∃ e l, k e l = some r ∧ PathOk P ops s l e ∧ l.map (·.1) = List.range' i rest.length ∧ (∀ x ∈ l, ops[x.1]? = some x.2.1) ∧ ascB l ∧ (∀ x ∈ l, i ≤ x.1)
  | [], i, s, k, r, hr, _ => ⟨s, [], hr, rfl, rfl, fun x hx => (by cases hx), trivial, fun x hx => (by cases hx)⟩
  | o :: rest, i, s, k, r, hr, hd => by
    unfold runOps at hr
    obtain ⟨x, hk, hx⟩ := runOp_ok hC hr
    have ho : ops[i]? = some o := by
      have := congrArg (fun l => l[0]?) hd
      simpa using this
    obtain ⟨e, l, h1, h2, h3, h4, h5, h6⟩ := runOps_ok hC hk (by rw [← List.drop_drop, hd]; rfl)
    refine ⟨e, (i, o, x) :: l, h1, ⟨ho, hx, h2⟩, by simp [h3, List.range'_succ], fun y hy => ?_, ⟨fun y hy => by have := h6 y hy; omega, h5⟩, fun y hy => ?_⟩
    · rcases List.mem_cons.1 hy with rfl | hy
      · exact ho
      · exact h4 y hy
    · rcases List.mem_cons.1 hy with rfl | hy
      · exact Nat.le_refl _
      · have := h6 y hy; omega

theorem region_ok (hC : OracleOk P C) (hm : P.follows .mixedOrders = true) {id : Nat} {ops : Array Oper} {draw : Bool} {s : AS} {k : KC R} {r : R}
    (hr : evalCode P C L N n0 rd me (.region id ops draw) s k = some r) : ∃ e s', k e s' = some r ∧ SimC P n0 rd (.region id ops draw) s e s' := by
  unfold evalCode at hr
  obtain ⟨e, l, h1, h2, h3, h4, h5, h6⟩ := runOps_ok hC hr rfl
  cases draw with
  | false =>
    refine ⟨.normal, e, h1, fun ro E a W hs _ hn => wpIn_region ?_⟩
    have := h2.seq (r := ro) (Q := fun e' a' W' => e' = XE.normal.toExit ∧ ∃ E', StOk E' e a' W' ∧ TransN n0 E s.heap W E' e.heap W') hs (fun E' a' W' h ht => ⟨rfl, E', h, ht.to hn⟩)
    rw [h3, ← List.range_eq_range'] at this
    simpa using this
  | true =>
    simp only [cond_true] at h1
    cases hb : (backB ops.toList 0 && freeB ops (masks ops.toList []) l) with
    | false => rw [hb] at h1; cases h1
    | true =>
      rw [hb] at h1
      simp only [Bool.and_eq_true] at hb
      have hlen : l.length = ops.toList.length := by
        have := congrArg List.length h3; simpa using this
      refine ⟨.normal, e, h1, fun ro E a W hs _ hn => wpIn_region_any hm ?_⟩
      have hs' : StOk E s a W.drew := ⟨hs.size, hs.slots, hs.defers, hs.scope, hs.heap.drew⟩
      have := wpAny_of_path (P := P) (r := ro) (Q := fun e' a' W' => e' = XE.normal.toExit ∧ ∃ E', StOk E' e a' W' ∧ TransN n0 E s.heap W E' e.heap W') hb.1 l.length l (Array.replicate ops.size false) s e E a W.drew rfl (by simp)
        (fun i hi => by
          rw [h3]
          have hi' : i < ops.size := by simpa using hi
          constructor
          · intro h; simp [hi'] at h
          · intro h; exact absurd (List.mem_range'.2 ⟨i, by simpa using hi', by omega⟩) h)
        h4 (fun k o hk hl => by
          have hk' : k < ops.size := by have := getElem?_lt hk; simpa using this
          simp [hk'] at hl) h5 (by simpa using hb.2) h2 hs' (fun E' a' W' h ht => ⟨rfl, E', h, (Trans.drew.trans ht).to hn⟩)
      rw [hlen] at this
      simpa using this

theorem loopN_ok {body : Code} {f : AS → KC R → Option R} (hf : ∀ s k r, f s k = some r → ∃ e s', k e s' = some r ∧ SimC P n0 rd body s e s') :
    ∀ (n : Nat) (s : AS) (k : KC R) (r : R), loopN f n s k = some r → ∃ e s', k e s' = some r ∧
      ∀ ro E a W, StOk E s a W → RdOk E n0 ro rd → n0 ≤ s.heap.length → ∀ Q : Exit → Act → World → Prop, (∀ E' a' W', StOk E' s' a' W' → TransN n0 E s.heap W E' s'.heap W' → Q e.toExit a' W') → Code.roundsIn (fen ro) 0 P body Q n a W
  | 0, s, k, r, h => by simp [loopN] at h
  | n + 1, s, k, r, h => by
    unfold loopN at h
    obtain ⟨e, s1, h1, hsim⟩ := hf s _ r h
    have leave : ∀ (e : XE), e ≠ .normal → SimC P n0 rd body s e s1 → k e s1 = some r → ∃ e s', k e s' = some r ∧
        ∀ ro E a W, StOk E s a W → RdOk E n0 ro rd → n0 ≤ s.heap.length → ∀ Q : Exit → Act → World → Prop, (∀ E' a' W', StOk E' s' a' W' → TransN n0 E s.heap W E' s'.heap W' → Q e.toExit a' W') → Code.roundsIn (fen ro) 0 P body Q (n + 1) a W := fun e hne hsim hk => by
      refine ⟨e, s1, hk, fun ro E a W hs hro hn Q hQ => ?_⟩
      rw [roundsIn_succ]
      refine wpIn_mono (hsim ro E a W hs hro hn) ?_
      rintro e' a' W' ⟨rfl, E', hs', ht⟩
      cases e with
      | normal => exact absurd rfl hne
      | exit id => exact hQ E' a' W' hs' ht
      | ret => exact hQ E' a' W' hs' ht
    cases e with
    | normal =>
      simp only at h1
      obtain ⟨e2, s2, h2, hsim2⟩ := loopN_ok hf n s1 k r h1
      refine ⟨e2, s2, h2, fun ro E a W hs hro hn Q hQ => ?_⟩
      rw [roundsIn_succ]
      refine wpIn_mono (hsim ro E a W hs hro hn) ?_
      rintro e' a' W' ⟨rfl, E', hs', ht⟩
      exact hsim2 ro E' a' W' hs' (hro.agree ht.agree (Nat.le_refl _)) ht.len Q (fun E'' a'' W'' hs'' ht' => hQ E'' a'' W'' hs'' (ht.trans ht'))
    | exit id => exact leave _ (by simp) hsim h1
    | ret => exact leave _ (by simp) hsim h1

theorem evalCode_ok (hC : OracleOk P C) (hm : P.follows .mixedOrders = true) (hl : loopsOk P L) : ∀ {c : Code} {s : AS} {k : KC R} {r : R}, evalCode P C L N n0 rd me c s k = some r → ∃ e s', k e s' = some r ∧ SimC P n0 rd c s e s'
  | .skip, s, k, r, hr => ⟨.normal, s, hr, fun _ E a W hs _ hn => wpIn_skip ⟨rfl, E, hs, (Trans.refl _ _ _).to hn⟩⟩
  | .label _, s, k, r, hr => ⟨.normal, s, hr, fun _ E a W hs _ hn => wpIn_label ⟨rfl, E, hs, (Trans.refl _ _ _).to hn⟩⟩
  | .exit id, s, k, r, hr => ⟨.exit id, s, hr, fun _ E a W hs _ hn => wpIn_exit ⟨rfl, E, hs, (Trans.refl _ _ _).to hn⟩⟩
  | .ret, s, k, r, hr => ⟨.ret, s, hr, fun _ E a W hs _ hn => wpIn_ret ⟨rfl, E, hs, (Trans.refl _ _ _).to hn⟩⟩
  | .region id ops draw, s, k, r, hr => region_ok hC hm hr
  | .seq x y, s, k, r, hr => by
    unfold evalCode at hr
    obtain ⟨e, s1, h1, hsim⟩ := evalCode_ok hC hm hl hr
    have leave : ∀ (e : XE), e ≠ .normal → SimC P n0 rd x s e s1 → k e s1 = some r → ∃ e s', k e s' = some r ∧ SimC P n0 rd (.seq x y) s e s' := fun e hne hsim hk => by
      refine ⟨e, s1, hk, fun ro E a W hs hro hn => wpIn_seq (wpIn_mono (hsim ro E a W hs hro hn) ?_)⟩
      rintro e' a' W' ⟨rfl, E', hs', ht⟩
      cases e with
      | normal => exact absurd rfl hne
      | exit id => exact ⟨rfl, E', hs', ht⟩
      | ret => exact ⟨rfl, E', hs', ht⟩
    cases e with
    | normal =>
      simp only at h1
      obtain ⟨e2, s2, h2, hsim2⟩ := evalCode_ok hC hm hl h1
      refine ⟨e2, s2, h2, fun ro E a W hs hro hn => wpIn_seq (wpIn_mono (hsim ro E a W hs hro hn) ?_)⟩
      rintro e' a' W' ⟨rfl, E', hs', ht⟩
      refine wpIn_mono (hsim2 ro E' a' W' hs' (hro.agree ht.agree (Nat.le_refl _)) ht.len) ?_
      rintro e'' a'' W'' ⟨rfl, E'', hs'', ht'⟩
      exact ⟨rfl, E'', hs'', ht.trans ht'⟩
    | exit id => exact leave _ (by simp) hsim h1
    | ret => exact leave _ (by simp) hsim h1
  | .cond c x y, s, k, r, hr => by
    unfold evalCode at hr
    split at hr
    · rename_i b hb
      have hrefine : refineS c b s = s := by
        unfold refineS
        split
        · rename_i t; rw [setV_same (by simpa [evalV] using hb)]
        · rfl
      have hval : ∀ {E : Env} {a : Act} {W : World}, StOk E s a W → a.eval c = .bool b := fun hs => by
        have := hs.eval c; rw [hb] at this; exact this.bool
      have yes : b = true → ∀ {r}, evalCode P C L N n0 rd me x s k = some r → ∃ e s', k e s' = some r ∧ SimC P n0 rd (.cond c x y) s e s' := fun hb r hq => by
        subst hb
        obtain ⟨e, s', h1, hsim⟩ := evalCode_ok hC hm hl hq
        exact ⟨e, s', h1, fun ro E a W hs hro hn => wpIn_cond_true (hval hs) (hsim ro E a W hs hro hn)⟩
      have no : b = false → ∀ {r}, evalCode P C L N n0 rd me y s k = some r → ∃ e s', k e s' = some r ∧ SimC P n0 rd (.cond c x y) s e s' := fun hb r hq => by
        subst hb
        obtain ⟨e, s', h1, hsim⟩ := evalCode_ok hC hm hl hq
        exact ⟨e, s', h1, fun ro E a W hs hro hn => wpIn_cond_false (hval hs) (hsim ro E a W hs hro hn)⟩
      split at hr <;> cases b <;> simp only [cond_true, cond_false, hrefine] at hr
      all_goals first
        | (exact yes rfl hr)
        | (exact no rfl hr)
        | (cases hr)
    · cases hr
  | .block id x, s, k, r, hr => by
    unfold evalCode at hr
    obtain ⟨e, s1, h1, hsim⟩ := evalCode_ok hC hm hl hr
    cases e with
    | normal =>
      refine ⟨.normal, s1, h1, fun ro E a W hs hro hn => wpIn_block (wpIn_mono (hsim ro E a W hs hro hn) ?_)⟩
      rintro e' a' W' ⟨rfl, E', hs', ht⟩
      exact ⟨rfl, E', hs', ht⟩
    | ret =>
      refine ⟨.ret, s1, h1, fun ro E a W hs hro hn => wpIn_block (wpIn_mono (hsim ro E a W hs hro hn) ?_)⟩
      rintro e' a' W' ⟨rfl, E', hs', ht⟩
      exact ⟨rfl, E', hs', ht⟩
    | exit id' =>
      simp only at h1
      cases hid : Nat.beq id' id with
      | true =>
        rw [hid] at h1
        have := Nat.eq_of_beq_eq_true hid
        subst this
        refine ⟨.normal, s1, h1, fun ro E a W hs hro hn => wpIn_block (wpIn_mono (hsim ro E a W hs hro hn) ?_)⟩
        rintro e' a' W' ⟨rfl, E', hs', ht⟩
        simp only [XE.toExit, Exit.inBlock, if_true]
        exact ⟨trivial, E', hs', ht⟩
      | false =>
        rw [hid] at h1
        refine ⟨.exit id', s1, h1, fun ro E a W hs hro hn => wpIn_block (wpIn_mono (hsim ro E a W hs hro hn) ?_)⟩
        rintro e' a' W' ⟨rfl, E', hs', ht⟩
        have : id' ≠ id := fun e => by subst e; simp at hid
        simp only [XE.toExit, Exit.inBlock, if_neg this]
        exact ⟨trivial, E', hs', ht⟩
  | .loop b, s, k, r, hr => by
    have unroll : loopN (fun s k => evalCode P C L N n0 rd me b s k) N s k = some r → ∃ e s', k e s' = some r ∧ SimC P n0 rd (.loop b) s e s' := fun hr => by
      obtain ⟨e, s', h1, H⟩ := loopN_ok (P := P) (n0 := n0) (rd := rd) (body := b) (fun s k r h => evalCode_ok hC hm hl h) N s k r hr
      exact ⟨e, s', h1, fun ro E a W hs hro hn => wpIn_loop_rounds N (H ro E a W hs hro hn _ fun E' a' W' hs' ht => ⟨rfl, E', hs', ht⟩)⟩
    unfold evalCode at hr
    split at hr
    · rename_i f hf
      split at hr
      · rename_i o ho
        subst hr
        obtain ⟨e, s', h1, H⟩ := hl _ f hf R n0 b s k r ho
        exact ⟨e, s', h1, H rd⟩
      · exact unroll hr
    · exact unroll hr
  | .rangeFunc .., _, _, _, hr => by unfold evalCode at hr; exact range_ok hC hr
  | .scope _, _, _, _, hr => by unfold evalCode at hr; cases hr
  | .goto _, _, _, _, hr => by unfold evalCode at hr; cases hr
  | .refuse _, _, _, _, hr => by unfold evalCode at hr; cases hr

/-! ### functions -/
def resV (P : Program) (h : List Blk) (tmps : List V) : List ResultVar → (List V → Option R) → Option R
  | [], K => K []
  | .tmp t :: r, K => match getV tmps t with
    | .top => none
    | v => resV P h tmps r (fun l => K (v :: l))
  | .cell a t :: r, K => aLoad P t (getV tmps a) h (fun v _ _ => resV P h tmps r (fun l => K (v :: l)))
def undefs : Nat → List V
  | 0 => []
  | n + 1 => undefV :: undefs n
def oneRes : List V → V
  | [v] => v
  | l => .tuple l
/-- The marks of the ranges over functions are come to. -/
def takeMarks (h : List Blk) : List Nat → (List Blk → Option R) → Option R
  | [], K => K h
  | m :: r, K => match getB h m with
    | .defs => takeMarks (setB h m .dead) r K
    | _ => none
def evalFn (P : Program) (C : Oracle) (L : Loops) (N : Nat) (me : FuncId) (fn : Func) (args : List V) (h : List Blk) (K : V → List Blk → Option R) : Option R :=
  match fn.body with
  | some c => evalCode P C L N h.length none me c ⟨appV args (undefs (fn.ntmps - args.length)), h, []⟩ (fun e s => match e with
    | .exit _ => none
    | _ => takeMarks s.heap s.marks (fun h' => resV P h' s.tmps fn.results.toList (fun l => K (oneRes l) h')))
  | none => none

theorem undefs_eq (n : Nat) : undefs n = List.replicate n undefV := by
  induction n with
  | zero => rfl
  | succ n ih => simp [undefs, ih, List.replicate_succ]

def resM (tmps : Array Value) : ResultVar → Sem Value
  | .tmp t => pure (tmps.getD t undef)
  | .cell b t => do loadVar t (← asAddr (tmps.getD b undef))
theorem resV_ok {h : List Blk} {tmps : List V} : ∀ {rs : List ResultVar} {K : List V → Option R} {r : R}, resV P h tmps rs K = some r → ∃ l, K l = some r ∧
    ∀ E a W, StOk E ⟨tmps, h, []⟩ a W → inSs h.length l = true ∧
      (rs.mapM (resM a.tmps)).run P W = .ok (concs E l) W
  | [], K, r, hr => ⟨[], hr, fun E a W hs => ⟨rfl, rfl⟩⟩
  | .tmp t :: rs, K, r, hr => by
    unfold resV at hr
    split at hr
    · cases hr
    · rename_i hnt
      obtain ⟨l, hk, H⟩ := resV_ok hr
      refine ⟨_, hk, fun E a W hs => ?_⟩
      obtain ⟨h1, h2⟩ := H E a W hs
      have h0 := hs.eval (.tmp t)
      simp only [evalV, Act.eval] at h0
      obtain ⟨e1, e2⟩ := h0.val (fun e => hnt e)
      refine ⟨by simp only [inSs, Bool.and_eq_true]; exact ⟨e2, h1⟩, ?_⟩
      have hm : (resM a.tmps (.tmp t)).run P W = .ok (conc E (getV tmps t)) W := by simp only [resM, Sem.run_pure, e1]
      simp only [List.mapM_cons, Sem.run_bind, hm, Sem.run_pure, Result.andThen_ok, h2, concs]
  | .cell b t :: rs, K, r, hr => by
    unfold resV at hr
    obtain ⟨v, rd, eff, hk, hx⟩ := aLoad_run hr
    obtain ⟨l, hk, H⟩ := resV_ok hk
    refine ⟨_, hk, fun E a W hs => ?_⟩
    obtain ⟨h1, h2⟩ := H E a W hs
    have h0 := hs.eval (.tmp b)
    simp only [evalV, Act.eval] at h0
    obtain ⟨h3, ad, e1, h4⟩ := hx E W hs.heap _ h0
    refine ⟨by simp only [inSs, Bool.and_eq_true]; exact ⟨h3, h1⟩, ?_⟩
    have hm : (resM a.tmps (.cell b t)).run P W = .ok (conc E v) W := by simp only [resM, Sem.run_bind, e1, asAddr, Sem.run_pure, Result.andThen_ok, h4]
    simp only [List.mapM_cons, Sem.run_bind, hm, Sem.run_pure, Result.andThen_ok, h2, concs]

theorem results_eq (fn : Func) (tmps : Array Value) : results fn tmps = (do
    let vs ← fn.results.mapM (resM tmps)
    pure (if h : vs.size = 1 then vs[0] else .tuple vs)) := by
  unfold results
  congr 1
theorem oneRes_conc (E : Env) (l : List V) (W : World) {P : Program} (fn : Func) (tmps : Array Value) (h : (fn.results.toList.mapM (resM tmps)).run P W = .ok (concs E l) W) :
    (results fn tmps).run P W = .ok (conc E (oneRes l)) W := by
  rw [results_eq]
  have hm : (fn.results.mapM (resM tmps)).run P W = .ok (concs E l).toArray W := by
    have : fn.results.mapM (resM tmps) = List.toArray <$> fn.results.toList.mapM (resM tmps) := by
      rw [← List.mapM_toArray, Array.toArray_toList]
    rw [this, Sem.run_map, h]
    rfl
  rw [Sem.run_bind, hm]
  simp only [Result.andThen_ok, Sem.run_pure]
  congr 1
  match l with
  | [v] => simp [oneRes, concs]
  | [] => simp [oneRes, concs, conc]
  | u :: v :: r => simp [oneRes, concs, conc]

theorem takeMarks_ok {fn : Func} {tmps : List V} : ∀ {ms : List Nat} {h : List Blk} {K : List Blk → Option R} {r : R}, takeMarks h ms K = some r → ∃ h', K h' = some r ∧
    ∀ {E : Env} {a : Act} {W : World} {Rp : Ending → World → Prop}, StOk E ⟨tmps, h, ms⟩ a W →
      (∀ W', StOk E ⟨tmps, h', []⟩ { tmps := a.tmps, defers := [] } W' → Trans E h W E h' W' → LeavesInM (fen none) 0 P fn a.tmps Rp [] .returning W') →
      LeavesInM (fen none) 0 P fn a.tmps Rp a.defers .returning W
  | [], h, K, r, hr => by
    refine ⟨h, hr, fun {E a W Rp} hs H => ?_⟩
    have hd : a.defers = [] := hs.defers
    rw [hd]
    exact H W ⟨hs.size, hs.slots, rfl, hs.scope, hs.heap⟩ (Trans.refl _ _ _)
  | m :: ms, h, K, r, hr => by
    unfold takeMarks at hr
    split at hr
    · rename_i hm
      have hb := getB_some hm (by simp)
      obtain ⟨h', hk, H⟩ := takeMarks_ok (tmps := tmps) hr
      refine ⟨h', hk, fun {E a W Rp} hs H2 => ?_⟩
      have hd : a.defers = { target := .collected (E.blk m), args := #[] } :: marksOf E ms := hs.defers
      rw [hd]
      have hok : W.heap[E.blk m]? = some (.deferred (some [])) := hs.heap.ok m _ hb
      obtain ⟨q1, q2⟩ := hs.heap.retire hb rfl rfl (.deferred none)
      refine ⟨by simp, .inl ⟨_, _, rfl, run_takeDeferred hok, ?_⟩⟩
      have := H (E := E) (a := { tmps := a.tmps, defers := marksOf E ms }) (W := World.putObj W (E.blk m) (.deferred none)) (Rp := Rp)
        ⟨hs.size, fun i v hi => by
          obtain ⟨x, hx, hr⟩ := hs.slots i v hi
          exact ⟨x, hx, by rw [setB_len]; exact hr⟩, rfl, fun b hb' => by rw [setB_len]; exact hs.scope b (by simp [hb']), q1⟩
        (fun W' hs' ht => H2 W' hs' (q2.trans ht))
      exact this
    · cases hr

theorem evalFn_ok (hC : OracleOk P C) (hm : P.follows .mixedOrders = true) {f : FuncId} {fn : Func} (hf : P.funcs[f]? = some fn) (hL : loopsOk P L) {args : List V} {h : List Blk} {K : V → List Blk → Option R} {r : R}
    (hr : evalFn P C L N me fn args h K = some r) : ∃ v h', K v h' = some r ∧ FnOK P f args h v h' := by
  unfold evalFn at hr
  split at hr
  · rename_i c hc
    obtain ⟨e, s, h1, hsim⟩ := evalCode_ok hC hm hL hr
    have hne : ∀ id, e ≠ .exit id := fun id he => by subst he; simp at h1
    have h1' : takeMarks s.heap s.marks (fun h' => resV P h' s.tmps fn.results.toList (fun l => K (oneRes l) h')) = some r := by
      cases e with
      | normal => exact h1
      | ret => exact h1
      | exit id => exact absurd rfl (hne id)
    obtain ⟨h', hk', HM⟩ := takeMarks_ok (P := P) (fn := fn) (tmps := s.tmps) h1'
    obtain ⟨l, hk, H⟩ := resV_ok hk'
    refine ⟨oneRes l, h', hk, fun E W hh hin => (callsIn_wide (n := 0)).1 (callsIn_of_wp_marks hf hc trivial ?_)⟩
    have hs : StOk E ⟨appV args (undefs (fn.ntmps - args.length)), h, []⟩ { tmps := (concs E args).toArray ++ Array.replicate (fn.ntmps - (concs E args).toArray.size) undef, defers := [] } W := by
      refine ⟨by simp [appV_eq, undefs_eq, concs_eq], fun i v hi => ?_, rfl, fun _ hb => (by cases hb), hh⟩
      simp only [appV_eq, undefs_eq] at hi
      simp only [concs_eq, List.size_toArray, List.length_map, Array.getElem?_append]
      rcases Nat.lt_or_ge i args.length with hlt | hge
      · rw [List.getElem?_append_left hlt] at hi
        have hv := (List.getElem?_eq_some_iff.1 hi).2
        refine ⟨conc E v, by simp [hlt, hv], VR.of (inSs_get hin hi)⟩
      · rw [List.getElem?_append_right hge] at hi
        have hlt := getElem?_lt hi
        simp at hlt
        have : v = undefV := by
          have := List.mem_of_getElem? hi
          exact (List.mem_replicate.1 this).2
        subst this
        refine ⟨undef, ?_, VR.undef⟩
        rw [if_neg (by omega), Array.getElem?_replicate, if_pos hlt]
    refine wpIn_mono (hsim none E _ W hs rfl (Nat.le_refl _)) ?_
    rintro e' a' W' ⟨rfl, E', hs', ht0⟩
    have ht := ht0.full
    have hleave : LeavesInM (fen none) 0 P fn a'.tmps (EndsIn E W h (oneRes l) h') a'.defers .returning W' := by
      refine HM hs' fun W2 hs2 ht2 => ?_
      obtain ⟨h2, h3⟩ := H E' { tmps := a'.tmps, defers := [] } W2 hs2
      have h4 := oneRes_conc E' l W2 fn a'.tmps h3
      have h5 : inS h'.length (oneRes l) = true := by
        unfold oneRes
        split
        · simpa [inSs] using h2
        · simpa [inS] using h2
      exact ⟨_, h4, _, E', rfl, VR.of h5, hs2.heap, ht.trans ht2⟩
    cases e with
    | normal => exact hleave
    | ret => exact hleave
    | exit id => exact absurd rfl (hne id)
  · cases hr

mutual
def plainV : V → Bool
  | .ptr _ _ | .view _ _ _ _ | .aslice _ _ _ _ | .gs _ | .yield _ | .top => false
  | .func _ caps => plainVs caps
  | .agg l => plainVs l
  | .tuple l => plainVs l
  | _ => true
def plainVs : List V → Bool
  | [] => true
  | v :: r => plainV v && plainVs r
end
mutual
theorem plainV_conc {E E' : Env} {n : Nat} : ∀ v, plainV v = true → conc E v = conc E' v ∧ inS n v = true
  | .bool _, _ | .int _ _, _ | .str _, _ | .flat _, _ | .glob _ _, _ => by simp [conc, inS]
  | .ptr _ _, h | .view _ _ _ _, h | .aslice _ _ _ _, h | .gs _, h | .yield _, h | .top, h => by simp [plainV] at h
  | .func f caps, h => by
    simp only [plainV] at h
    obtain ⟨h1, h2⟩ := plainVs_conc (E := E) (E' := E') (n := n) caps h
    exact ⟨by simp only [conc, h1], by simpa [inS] using h2⟩
  | .agg l, h => by
    simp only [plainV] at h
    obtain ⟨h1, h2⟩ := plainVs_conc (E := E) (E' := E') (n := n) l h
    exact ⟨by simp only [conc, h1], by simpa [inS] using h2⟩
  | .tuple l, h => by
    simp only [plainV] at h
    obtain ⟨h1, h2⟩ := plainVs_conc (E := E) (E' := E') (n := n) l h
    exact ⟨by simp only [conc, h1], by simpa [inS] using h2⟩
theorem plainVs_conc {E E' : Env} {n : Nat} : ∀ l, plainVs l = true → concs E l = concs E' l ∧ inSs n l = true
  | [], _ => ⟨rfl, rfl⟩
  | v :: r, h => by
    simp only [plainVs, Bool.and_eq_true] at h
    obtain ⟨h1, h2⟩ := plainV_conc (E := E) (E' := E') (n := n) v h.1
    obtain ⟨h3, h4⟩ := plainVs_conc (E := E) (E' := E') (n := n) r h.2
    exact ⟨by simp only [concs, h1, h3], by simp [inSs, h2, h4]⟩
end

theorem FnOK.pure {f : FuncId} {args : List V} {v : V} {h' : List Blk} (hf : FnOK P f args [] v h') (ha : plainVs args = true) (hv : plainV v = true) (h : List Blk) : FnOK P f args h v h := by
  intro E W hh _
  obtain ⟨e1, e2⟩ := plainVs_conc (E := E) (E' := E) (n := 0) args ha
  refine (hf E W ⟨fun b blk hb => by simp at hb, fun b b' blk blk' hb => by simp at hb⟩ e2).mono ?_
  rintro e W' ⟨x, E', rfl, hx, hh', ht⟩
  have hnm : ∀ k, ¬ Mine E ([] : List Blk) k := fun k ⟨b, blk, hb, _⟩ => by simp at hb
  have hkeep : ∀ k, k < W.heap.size → W'.heap[k]? = W.heap[k]? := fun k hk => ht.frame k hk (hnm k)
  obtain ⟨e3, e4⟩ := plainV_conc (E := E') (E' := E) (n := h.length) v hv
  have hnt : v ≠ .top := fun e => by subst e; simp [plainV] at hv
  refine ⟨x, E, rfl, .inr ⟨e4, by rw [(hx.val hnt).1, e3]⟩, hh.keep (Agree.refl _ _) hkeep, ⟨Agree.refl _ _, Nat.le_refl _, fun k hk => .inl hk, fun k hk _ => hkeep k hk, ht.size, ht.os, ht.tape, ht.output⟩⟩

end
end Go.Eng
