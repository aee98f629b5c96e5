/- ENGINE, PART 8b: ranges over functions. -/
import Derived.Test.YtbocdcnkmcejjaaDoorEngAny
import Derived.Test.YtbocdcnkmcejjaaDoorEngOpsSlice
namespace Go.Eng
open Go

abbrev KC (R : Type) := XE → AS → Option R

/-- The round that a piece of code stands in. -/
def RdOk (E : Env) (n : Nat) (r : Option Nat) : Option Nat → Prop
  | none => r = none
  | some b => b < n ∧ r = some (E.blk b)
theorem RdOk.agree {E E' : Env} {n m : Nat} {r rd : Option Nat} (h : RdOk E n r rd) (hE : Agree n E E') (hm : n ≤ m) : RdOk E' m r rd := by
  cases rd with
  | none => exact h
  | some b => exact ⟨Nat.lt_of_lt_of_le h.1 hm, by rw [hE.blk b h.1]; exact h.2⟩
def SimC (P : Program) (n : Nat) (rd : Option Nat) (c : Code) (s : AS) (e : XE) (s' : AS) : Prop :=
  ∀ r E a W, StOk E s a W → RdOk E n r rd → n ≤ s.heap.length → c.wpIn (fen r) 0 P (fun e' a' W' => e' = e.toExit ∧ ∃ E', StOk E' s' a' W' ∧ TransN n E s.heap W E' s'.heap W') a W

/-- A block of ours is written a last time. -/
theorem Holds.retire {E : Env} {h : List Blk} {W : World} (hh : Holds E h W) {b : Nat} {blk : Blk} (hb : h[b]? = some blk) (hm : blk.mine = true) (hl : liveAt E b blk = true) (o : Obj) :
    Holds E (setB h b .dead) (World.putObj W (E.blk b) o) ∧ Trans E h W E (setB h b .dead) (World.putObj W (E.blk b) o) := by
  have hlt := getElem?_lt hb
  have cas : ∀ {b' x}, (setB h b .dead)[b']? = some x → (b' = b ∧ x = .dead) ∨ (b' ≠ b ∧ h[b']? = some x) := fun {b' x} hx => by
    rw [setB_eq] at hx
    by_cases e : b' = b
    · subst e; rw [List.getElem?_set_self hlt] at hx; injection hx with hx; exact .inl ⟨rfl, hx.symm⟩
    · rw [List.getElem?_set_ne (Ne.symm e)] at hx; exact .inr ⟨e, hx⟩
  have hlen : (setB h b .dead).length = h.length := by rw [setB_eq]; simp
  refine ⟨⟨fun b' x hx => ?_, fun b1 b2 x1 x2 h1 h2 m1 l1 l2 he => ?_⟩, ⟨Agree.refl _ _, by rw [hlen]; exact Nat.le_refl _, fun k hk => .inl ?_, fun k hk hn => ?_, by simp [World.putObj], rfl, rfl, rfl⟩⟩
  · rw [hlen]
    rcases cas hx with ⟨rfl, rfl⟩ | ⟨hne, hx⟩
    · trivial
    · cases hlx : liveAt E b' x with
      | false => exact (hh.ok b' x hx).absent (getElem?_lt hx) (Agree.refl _ _) (Nat.le_refl _) hlx
      | true =>
        have hd : E.blk b ≠ E.blk b' := fun he => hne (hh.inj b b' blk x hb hx hm hl hlx he).symm
        exact (hh.ok b' x hx).frame (getElem?_lt hx) (Agree.refl _ _) (Nat.le_refl _) (fun o ho => by rw [putObj_get hd]; exact ho)
  · rcases cas h1 with ⟨e1, e2⟩ | ⟨n1, k1⟩
    · subst e2; simp [Blk.mine] at m1
    · rcases cas h2 with ⟨e3, e4⟩ | ⟨n2, k2⟩
      · subst e4; simp [liveAt] at l2
      · exact hh.inj _ _ _ _ k1 k2 m1 l1 l2 he
  · obtain ⟨b', x, hx, h1, h2, h3⟩ := hk
    rcases cas hx with ⟨rfl, rfl⟩ | ⟨_, hx⟩
    · simp [Blk.mine] at h1
    · exact ⟨b', x, hx, h1, h2, h3⟩
  · have hd : E.blk b ≠ k := fun he => hn ⟨b, blk, hb, hm, hl, he⟩
    exact putObj_get hd

section
variable {R : Type} {P : Program} {C : Oracle}

/-- The call of the function, and what follows. -/
def rangeGo (C : Oracle) (gf : FuncId) (caps : List V) (l : Nat) (h : List Blk) (tmps : List V) (marks : List Nat) (k : KC R) : Option R :=
  match noTop caps with
  | true => C R (.fn gf) (.yield l :: caps) h (fun _ _ eff => match getB (eff.app h) l with
    | .loopB st _ _ _ _ _ _ => match st with
      | .ready => k .normal ⟨tmps, setB (eff.app h) l .dead, marks⟩
      | .done e => k e ⟨tmps, setB (eff.app h) l .dead, marks⟩
      | .busy => none
    | _ => none)
  | false => none
def rangeIn (C : Oracle) (rd : Option Nat) (me : FuncId) (g : Operand) (ps : Array Tmp) (assign body : Code) (s : AS) (k : KC R) : Option R :=
  match evalV s.tmps g with
  | .func gf caps => match rd with
    | none => rangeGo C gf caps (s.heap.length + 1) (s.heap ++ [.defs] ++ [.loopB .ready me s.tmps ps.toList assign body s.heap.length]) s.tmps (s.heap.length :: s.marks) k
    | some b0 => match getB s.heap b0 with
      | .loopB _ _ _ _ _ _ d => rangeGo C gf caps s.heap.length (s.heap ++ [.loopB .ready me s.tmps ps.toList assign body d]) s.tmps s.marks k
      | _ => none
  | _ => none

theorem wpIn_code {r : Option Nat} (e : XE) {Q : Exit → Act → World → Prop} {a : Act} {W : World} (h : Q e.toExit a W) : e.code.wpIn (fen r) 0 P Q a W := by
  cases e with
  | normal => exact wpIn_skip h
  | exit id => exact wpIn_exit h
  | ret => exact wpIn_ret h

/-- What follows the call. -/
theorem rangeGo_ok (hC : OracleOk P C) {gf : FuncId} {caps : List V} {l : Nat} {h : List Blk} {tmps : List V} {marks : List Nat} {k : KC R} {r : R} (hl : l < h.length) (hr : rangeGo C gf caps l h tmps marks k = some r) :
    ∃ e h', k e ⟨tmps, h', marks⟩ = some r ∧ Enterable P gf ∧ noTop caps = true ∧ ∀ (ro : Option Nat) E W (a : Act) (Q : Exit → Act → World → Prop), Holds E h W → inSs h.length caps = true →
      (∀ E' W', Holds E' h' W' → Trans E h W E' h' W' → Q e.toExit a W') →
      Calls P gf (concs E (.yield l :: caps)).toArray W (rangePost (fen ro) 0 P (E.blk l) Q a) := by
  unfold rangeGo at hr
  split at hr
  · rename_i hnt
    obtain ⟨v, rd, eff, hk, hs, he, H⟩ := hC R _ _ _ _ _ hr
    have hf : FnOK P gf (.yield l :: caps) h v (eff.app h) := H h hs
    have main : ∀ {st : LSt} {me : FuncId} {tm : List V} {ps : List Tmp} {asg bd : Code} {d : Nat} {e : XE}, getB (eff.app h) l = .loopB st me tm ps asg bd d → ((st = .ready ∧ e = .normal) ∨ st = .done e) → ∀ (ro : Option Nat) E W (a : Act) (Q : Exit → Act → World → Prop), Holds E h W → inSs h.length caps = true →
      (∀ E' W', Holds E' (setB (eff.app h) l .dead) W' → Trans E h W E' (setB (eff.app h) l .dead) W' → Q e.toExit a W') →
      Calls P gf (concs E (.yield l :: caps)).toArray W (rangePost (fen ro) 0 P (E.blk l) Q a) := by
      intro st me tm ps asg bd d e hst hcase ro E W a Q hh hin hQ
      have hb := getB_some hst (by simp)
      refine (hf E W hh (by simp only [inSs, inS, Bool.and_eq_true]; exact ⟨by simpa using hl, hin⟩)).mono ?_
      rintro en W' ⟨x, E', rfl, hx, hh', ht⟩
      have hok := hh'.ok l _ hb
      obtain ⟨_, fn, vs, _, hc⟩ := hok
      rw [← ht.agree.blk l hl]
      obtain ⟨q1, q2⟩ := hh'.retire hb rfl rfl (.loop { state := .exhausted, pending := st.pending, fn, tmps := vs, params := ps.toArray, assign := asg, body := bd, defers := E'.blk d })
      refine ⟨_, _, run_endLoop hc (by rcases hcase with ⟨rfl, _⟩ | rfl <;> simp [LSt.state]), ?_⟩
      rcases hcase with ⟨rfl, rfl⟩ | rfl
      · exact hQ E' _ q1 (ht.trans q2)
      · exact wpIn_code e (hQ E' _ q1 (ht.trans q2))
    split at hk
    · rename_i st me tm ps asg bd d hst
      split at hk
      · exact ⟨_, _, hk, he, hnt, main hst (.inl ⟨rfl, rfl⟩)⟩
      · exact ⟨_, _, hk, he, hnt, main hst (.inr rfl)⟩
      · cases hk
    · cases hk
  · cases hr

theorem StOk.newLoop {E E1 : Env} {s : AS} {a : Act} {W W1 : World} {h1 : List Blk} (hs : StOk E s a W) (hE : Agree s.heap.length E E1) (hl : s.heap.length ≤ h1.length) (hh : Holds E1 h1 W1) (me fn : FuncId) (ps : Array Tmp) (assign body : Code) (d : Nat) (hd : d < h1.length) :
    Holds (E1.put h1.length W1.heap.size 0 0 false) (h1 ++ [.loopB .ready me s.tmps ps.toList assign body d]) (W1.alloc (.loop { state := .ready, pending := none, fn, tmps := a.tmps, params := ps, assign, body, defers := E1.blk d })) ∧
    Trans E1 h1 W1 (E1.put h1.length W1.heap.size 0 0 false) (h1 ++ [.loopB .ready me s.tmps ps.toList assign body d]) (W1.alloc (.loop { state := .ready, pending := none, fn, tmps := a.tmps, params := ps, assign, body, defers := E1.blk d })) := by
  have hE1 := Agree.put E1 h1.length W1.heap.size 0 0 false
  refine hh.newBlk _ 0 0 _ ⟨by omega, fn, a.tmps, ⟨hs.size, fun i v hi => ?_⟩, ?_⟩
  · obtain ⟨x, hx, hr⟩ := hs.slots i v hi
    exact ⟨x, hx, (hr.mono hE hl).mono hE1 (Nat.le_succ _)⟩
  · have e0 : (E1.put h1.length W1.heap.size 0 0 false).blk h1.length = W1.heap.size := if_pos rfl
    rw [e0, hE1.blk d hd]
    simp only [Array.toArray_toList]
    exact World.alloc_heap_new _ _

theorem range_ok (hC : OracleOk P C) {n : Nat} {rd : Option Nat} {me : FuncId} {g : Operand} {ps : Array Tmp} {assign body : Code} {s : AS} {k : KC R} {r : R} (hr : rangeIn C rd me g ps assign body s k = some r) :
    ∃ e s', k e s' = some r ∧ SimC P n rd (.rangeFunc g ps assign body) s e s' := by
  unfold rangeIn at hr
  split at hr
  · rename_i gf caps hg
    -- the call
    have call : ∀ {E E1 : Env} {a : Act} {W W1 : World} {l n1 : Nat}, StOk E s a W → Agree s.heap.length E E1 → s.heap.length ≤ n1 → Enterable P gf →
        inSs n1 caps = true ∧ ∀ L, E1.blk l = L → (resolve a.eval (rangeCall g L) 0).run P W1 = .ok { target := .fn (.func gf) (concs E1 caps).toArray, args := #[.func (.yield L) #[] #[]] } W1 ∧
          (invoke (.fn (.func gf) (concs E1 caps).toArray) #[.func (.yield L) #[] #[]]).run P W1 = .ok (.enter gf (concs E1 (.yield l :: caps)).toArray) W1 := by
      intro E E1 a W W1 l n1 hs hE hn1 ⟨fn, hfn, hname, hbody⟩
      have h0 := hs.eval g
      rw [hg] at h0
      obtain ⟨e1, e2⟩ := (h0.mono hE hn1).val (by simp)
      refine ⟨by simpa [inS] using e2, fun L hL => ⟨?_, ?_⟩⟩
      · simp only [resolve, e1, conc, Deferred.ofValue, Sem.run_pure]
        simp [Act.eval]
      · simp only [invoke, callFunc, run_program, Sem.run_bind, Result.andThen_ok, hfn]
        rw [if_neg (by rw [hname]; simp), if_neg (by rw [hbody]; simp)]
        simp only [Sem.run_pure, concs, conc, hL]
        simp
    split at hr
    · obtain ⟨e, h', hk, hent, hnt, H⟩ := rangeGo_ok hC (by simp) hr
      refine ⟨e, _, hk, fun ro E a W hs hro hn => wpIn_rangeFunc fun fn _ => ?_⟩
      have hro : ro = none := hro
      subst hro
      have e0 : (E.put s.heap.length W.heap.size 0 0 false).blk s.heap.length = W.heap.size := if_pos rfl
      obtain ⟨q1, q2⟩ := hs.heap.newBlk (.deferred (some [])) 0 0 .defs (by
        unfold BlkOk
        rw [e0]; exact World.alloc_heap_new _ _)
      obtain ⟨q3, q4⟩ := hs.newLoop q2.agree q2.len q1 me fn ps assign body s.heap.length (by simp)
      rw [e0] at q3 q4
      have hlen : (s.heap ++ [Blk.defs]).length = s.heap.length + 1 := by simp
      have q5 := q2.trans q4
      obtain ⟨c1, c2⟩ := call (l := s.heap.length + 1) (W1 := (W.alloc (.deferred (some []))).alloc (.loop { state := .ready, pending := none, fn, tmps := a.tmps, params := ps, assign, body, defers := W.heap.size })) hs q5.agree q5.len hent
      have hblk : ((E.put s.heap.length W.heap.size 0 0 false).put (s.heap ++ [Blk.defs]).length (W.alloc (.deferred (some []))).heap.size 0 0 false).blk (s.heap.length + 1) = W.heap.size + 1 := by
        rw [← hlen]; simp [Env.put]
      obtain ⟨c3, c4⟩ := c2 _ hblk
      refine ⟨_, _, _, _, _, gf, _, _, run_enterLoop_outer _ _ _ _ _, c3, fun _ _ => trivial, c4, fun hx => by simp [fen] at hx, ?_⟩
      rw [← hblk]
      refine callsIn_wide.2 (H none _ _ _ _ q3 c1 fun E' W' hh' ht' => ⟨rfl, E', ⟨hs.size, fun i v hi => ?_, ?_, ?_, hh'⟩, (q5.trans ht').to hn⟩)
      · obtain ⟨x, hx, hr⟩ := hs.slots i v hi
        exact ⟨x, hx, hr.mono (q5.trans ht').agree (q5.trans ht').len⟩
      · have h2 : E'.blk s.heap.length = W.heap.size := by
          rw [(q4.trans ht').agree.blk s.heap.length (by simp), e0]
        simp only [marksOf, h2]
        rw [marksOf_agree (q5.trans ht').agree hs.scope, ← hs.defers]
        rfl
      · intro b hb
        have := (q4.trans ht').len
        have h3 := (q5.trans ht').len
        simp only [List.length_append, List.length_cons, List.length_nil] at this
        rcases List.mem_cons.1 hb with rfl | hb
        · show s.heap.length < h'.length
          omega
        · exact Nat.lt_of_lt_of_le (hs.scope b hb) h3
    · rename_i b0
      split at hr
      · rename_i st0 me0 tm0 ps0 as0 bd0 d hb0
        have hb0 := getB_some hb0 (by simp)
        obtain ⟨e, h', hk, hent, hnt, H⟩ := rangeGo_ok hC (by simp) hr
        refine ⟨e, _, hk, fun ro E a W hs hro hn => wpIn_rangeFunc fun fn _ => ?_⟩
        obtain ⟨hlt, hro⟩ := hro
        subst hro
        obtain ⟨hd, fn0, vs0, _, hc0⟩ := hs.heap.ok b0 _ hb0
        obtain ⟨q3, q4⟩ := hs.newLoop (Agree.refl _ _) (Nat.le_refl _) hs.heap me fn ps assign body d hd
        obtain ⟨c1, c2⟩ := call (l := s.heap.length) (W1 := W.alloc (.loop { state := .ready, pending := none, fn, tmps := a.tmps, params := ps, assign, body, defers := E.blk d })) hs q4.agree q4.len hent
        have hblk : (E.put s.heap.length W.heap.size 0 0 false).blk s.heap.length = W.heap.size := if_pos rfl
        obtain ⟨c3, c4⟩ := c2 _ hblk
        refine ⟨W.heap.size, [], _, _, _, gf, _, _, ?_, c3, fun _ _ => trivial, c4, fun hx => by simp [fen] at hx, ?_⟩
        · simp only [Instr.enterLoop, fen, Sem.run_bind, run_getLoop hc0, Result.andThen_ok, Sem.run_pure, run_newObj_alloc]
        · refine callsIn_wide.2 ?_
          have hcall := H (some (E.blk b0)) _ _ { tmps := a.tmps, defers := [] ++ a.defers } (fun e' a' W' => e' = e.toExit ∧ ∃ E', StOk E' ⟨s.tmps, h', s.marks⟩ a' W' ∧ TransN n E s.heap W E' h' W') q3 c1 fun E' W' hh' ht' => ⟨rfl, E', ⟨hs.size, fun i v hi => ?_, ?_, ?_, hh'⟩, (q4.trans ht').to hn⟩
          · rw [hblk] at hcall; exact hcall
          · obtain ⟨x, hx, hr⟩ := hs.slots i v hi
            exact ⟨x, hx, hr.mono (q4.trans ht').agree (q4.trans ht').len⟩
          · rw [marksOf_agree (q4.trans ht').agree hs.scope, ← hs.defers]
            rfl
          · intro b hb
            exact Nat.lt_of_lt_of_le (hs.scope b hb) (q4.trans ht').len
      · cases hr
  · cases hr
end
end Go.Eng
