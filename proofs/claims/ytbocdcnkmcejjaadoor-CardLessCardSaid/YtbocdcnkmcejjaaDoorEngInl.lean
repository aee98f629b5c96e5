/- ENGINE, PART 11: functions and rounds walked where they are called. -/
import Derived.Test.YtbocdcnkmcejjaaDoorEngPure
namespace Go.Eng
open Go

def setPs : List Tmp → List V → List V → List V
  | p :: ps, x :: xs, tmps => setPs ps xs (setV tmps p x)
  | _, _, tmps => tmps

/-- Functions by their numbers. -/
abbrev FTab := FuncId → Option Func
def FTabOk (P : Program) (F : FTab) : Prop := ∀ f fn, F f = some fn → P.funcs[f]? = some fn

def inl (P : Program) (F : FTab) (T : PTab) (LL : FuncId → Loops) (N : Nat) (pu dom : FuncId → Bool) (pre : Oracle) : Nat → Oracle
  | 0 => oracleOf T
  | d + 1 => fun R t args h K => match t with
    | .fn f => match T f args with
      | some (c, v) => cond c (K v [] .none) none
      | none => match dom f with
       | true => pre R (.fn f) args h K
       | false => match F f with
        | some fn => match enterB fn with
          | true => match pu f && plainVs args with
            | true => evalFn P (inl P F T LL N pu dom pre d) (LL f) N f fn args [] (fun v _ => match plainV v with
              | true => K v [] .none
              | false => none)
            | false => evalFn P (inl P F T LL N pu dom pre d) (LL f) N f fn args h (fun v h' => K v [] (.all h'))
          | false => none
        | none => none
    | .yield b => match getB h b with
      | .loopB .ready me tmps ps assign body _ => match Nat.beq args.length ps.length with
        | true => evalCode P (inl P F T LL N pu dom pre d) (LL me) N h.length (some b) me assign ⟨setPs ps args tmps, h, []⟩ (fun e s => match e with
          | .normal => match getB s.heap b with
            | .loopB .ready m1 t1 p1 a1 c1 d1 => evalCode P (inl P F T LL N pu dom pre d) (LL me) N h.length (some b) me body ⟨s.tmps, setB s.heap b (.loopB .busy m1 t1 p1 a1 c1 d1), s.marks⟩ (fun e s => match getB s.heap b with
              | .loopB .busy m t p x c dd => match e with
                | .normal => K (.bool true) [] (.all (setB s.heap b (.loopB .ready m t p x c dd)))
                | e => K (.bool false) [] (.all (setB s.heap b (.loopB (.done e) m t p x c dd)))
              | _ => none)
            | _ => none
          | _ => none)
        | false => none
      | _ => none

section
variable {P : Program}

/-- A range over a function changes where it stands. -/
theorem Holds.setLoop {E : Env} {h : List Blk} {W : World} (hh : Holds E h W) {b : Nat} {st st' : LSt} {me : FuncId} {tmps : List V} {ps : List Tmp} {assign body : Code} {d : Nat} (hb : h[b]? = some (.loopB st me tmps ps assign body d)) {fn : FuncId} {vs : Array Value}
    (hv : vs.size = tmps.length ∧ ∀ (i : Nat) (v : V), tmps[i]? = some v → ∃ x, vs[i]? = some x ∧ VR E h.length v x) :
    Holds E (setB h b (.loopB st' me tmps ps assign body d)) (World.putObj W (E.blk b) (.loop { state := st'.state, pending := st'.pending, fn, tmps := vs, params := ps.toArray, assign, body, defers := E.blk d })) ∧
    Trans E h W E (setB h b (.loopB st' me tmps ps assign body d)) (World.putObj W (E.blk b) (.loop { state := st'.state, pending := st'.pending, fn, tmps := vs, params := ps.toArray, assign, body, defers := E.blk d })) := by
  obtain ⟨hd, fn0, vs0, _, hc⟩ := hh.ok b _ hb
  refine hh.write (blk' := .loopB st' me tmps ps assign body d) hb rfl rfl rfl rfl ⟨hd, fn, vs, hv, ?_⟩
  exact World.putObj_heap_same (Array.getElem?_eq_some_iff.1 hc).1

theorem setPs_ok {E : Env} {n : Nat} : ∀ {ps : List Tmp} {args : List V} {tmps : List V} {vs : Array Value}, inSs n args = true →
    (vs.size = tmps.length ∧ ∀ (i : Nat) (v : V), tmps[i]? = some v → ∃ x, vs[i]? = some x ∧ VR E n v x) →
    (((ps.zip (concs E args)).foldl (fun (t : Array Value) (x : Tmp × Value) => t.setIfInBounds x.1 x.2) vs).size = (setPs ps args tmps).length ∧
      ∀ (i : Nat) (v : V), (setPs ps args tmps)[i]? = some v → ∃ x, ((ps.zip (concs E args)).foldl (fun (t : Array Value) (x : Tmp × Value) => t.setIfInBounds x.1 x.2) vs)[i]? = some x ∧ VR E n v x)
  | [], args, tmps, vs, _, h => by simpa [setPs] using h
  | p :: ps, [], tmps, vs, _, h => by simpa [setPs, concs] using h
  | p :: ps, v :: args, tmps, vs, hin, h => by
    simp only [inSs, Bool.and_eq_true] at hin
    simp only [setPs, concs, List.zip_cons_cons, List.foldl_cons]
    refine setPs_ok hin.2 ⟨by simp [setV_eq, h.1], fun i u hi => ?_⟩
    rw [setV_eq] at hi
    by_cases hp : p = i
    · subst hp
      rcases Nat.lt_or_ge p tmps.length with hlt | hge
      · rw [List.getElem?_set_self hlt] at hi
        injection hi with hi; subst hi
        exact ⟨conc E v, by rw [Array.getElem?_setIfInBounds_self_of_lt (by rw [h.1]; exact hlt)], VR.of hin.1⟩
      · rw [List.getElem?_eq_none (by simpa using hge)] at hi; cases hi
    · rw [List.getElem?_set_ne hp] at hi
      obtain ⟨y, hy, hr⟩ := h.2 i u hi
      exact ⟨y, by rw [Array.getElem?_setIfInBounds_ne hp]; exact hy, hr⟩

theorem concs_length (E : Env) (l : List V) : (concs E l).length = l.length := by rw [concs_eq, List.length_map]

theorem inl_ok {F : FTab} {T : PTab} {LL : FuncId → Loops} {N : Nat} {pu dom : FuncId → Bool} {pre : Oracle} (hP : OracleOk P pre) (hF : FTabOk P F) (hT : PTabOk P T) (hL : ∀ f, loopsOk P (LL f)) (hm : P.follows .mixedOrders = true) : ∀ d, OracleOk P (inl P F T LL N pu dom pre d)
  | 0 => oracleOf_ok hT
  | d + 1 => by
    have ih := inl_ok (N := N) (pu := pu) (dom := dom) hP hF hT hL hm d
    intro R t args h K r hr
    unfold inl at hr
    split at hr
    · rename_i f
      split at hr
      · rename_i c v hv
        cases c with
        | false => cases hr
        | true =>
          obtain ⟨h1, h2⟩ := hT f args true v hv rfl
          exact ⟨v, [], .none, hr, fun _ hx => (by cases hx), h1, fun h2' _ => h2 h2'⟩
      · split at hr
        · exact hP R (.fn f) args h K r hr
        split at hr
        · rename_i fn hfn
          split at hr
          · rename_i hen
            split at hr
            · rename_i hpl
              simp only [Bool.and_eq_true] at hpl
              obtain ⟨v, h', hk, hok⟩ := evalFn_ok ih hm (hF f fn hfn) (hL f) hr
              split at hk
              · rename_i hpv
                exact ⟨v, [], .none, hk, fun _ hx => (by cases hx), .of (hF f fn hfn) hen, fun h2 _ => hok.pure hpl.2 hpv h2⟩
              · cases hk
            · obtain ⟨v, h', hk, hok⟩ := evalFn_ok ih hm (hF f fn hfn) (hL f) hr
              exact ⟨v, [], .all h', hk, rfl, .of (hF f fn hfn) hen, fun h2 hs => by rw [show h2 = h from hs]; exact hok⟩
          · cases hr
        · cases hr
    · rename_i b
      split at hr
      · rename_i me tmps ps assign body dd hb
        have hb := getB_some hb (by simp)
        split at hr
        · rename_i hlen
          have hlen := Nat.eq_of_beq_eq_true hlen
          obtain ⟨e1, s1, hk1, hsim1⟩ := evalCode_ok ih hm (hL me) hr
          cases e1 with
          | exit id => cases hk1
          | ret => cases hk1
          | normal =>
            simp only at hk1
            split at hk1
            · rename_i m1 t1 p1 a1 c1 d1 hb1
              have hb1 := getB_some hb1 (by simp)
              obtain ⟨e2, s2, hk2, hsim2⟩ := evalCode_ok ih hm (hL me) hk1
              split at hk2
              · rename_i m2 t2 p2 a2 c2 d2 hb2
                have hb2 := getB_some hb2 (by simp)
                -- what is claimed, whatever way the body was left
                have main : ∀ (st : LSt) (v : Bool), ((e2 = .normal ∧ st = .ready ∧ v = true) ∨ (e2 ≠ .normal ∧ st = .done e2 ∧ v = false)) → RoundOK P b args h (.bool v) (setB s2.heap b (.loopB st m2 t2 p2 a2 c2 d2)) := by
                  intro st v hcase E W hh hin hlt
                  obtain ⟨hd0, fn0, vs0, hvs0, hc0⟩ := hh.ok b _ hb
                  have hrdy : LSt.ready.state = .ready := rfl
                  have hy := run_yield (P := P) (args := (concs E args).toArray) hc0 (by simp [concs_length, hlen])
                  refine ⟨_, _, _, _, hy, roundIn_of_wpIn trivial ?_⟩
                  have hset := setPs_ok (E := E) (ps := ps) (args := args) hin hvs0
                  have hs0 : StOk E ⟨setPs ps args tmps, h, []⟩ { tmps := (ps.toArray.zip (concs E args).toArray).foldl (fun tmps (x : Tmp × Value) => tmps.setIfInBounds x.1 x.2) vs0, defers := [] } W := by
                    have e0 : (ps.toArray.zip (concs E args).toArray).foldl (fun (tmps : Array Value) (x : Tmp × Value) => tmps.setIfInBounds x.1 x.2) vs0 = (ps.zip (concs E args)).foldl (fun (t : Array Value) (x : Tmp × Value) => t.setIfInBounds x.1 x.2) vs0 := by simp
                    exact ⟨by rw [e0]; exact hset.1, by rw [e0]; exact hset.2, rfl, fun _ hb => (by cases hb), hh⟩
                  have hrd0 : RdOk E h.length (some (E.blk b)) (some b) := ⟨hlt, rfl⟩
                  refine wpIn_mono (hsim1 (some (E.blk b)) E _ W hs0 hrd0 (Nat.le_refl _)) ?_
                  rintro e' a1' W1 ⟨rfl, E1, hs1, htn1⟩
                  have ht1 := htn1.full
                  have hrd1 := hrd0.agree ht1.agree (Nat.le_refl _)
                  have hblk1 : E1.blk b = E.blk b := ht1.agree.blk b hlt
                  obtain ⟨hd1, fn1, vs1, hvs1, hc1⟩ := hs1.heap.ok b _ hb1
                  obtain ⟨q1, q2⟩ := hs1.heap.setLoop (st' := .busy) hb1 (fn := fn1) hvs1
                  have hbr : (Instr.beginRound (E.blk b)).run P W1 = .ok () (World.putObj W1 (E1.blk b) (.loop { state := LSt.busy.state, pending := LSt.busy.pending, fn := fn1, tmps := vs1, params := p1.toArray, assign := a1, body := c1, defers := E1.blk d1 })) := by
                    have := run_beginRound (P := P) hc1 rfl
                    rw [hblk1] at this ⊢
                    exact this
                  refine ⟨_, hbr, ?_⟩
                  have hs1' : StOk E1 ⟨s1.tmps, setB s1.heap b (.loopB .busy m1 t1 p1 a1 c1 d1), s1.marks⟩ a1' _ :=
                    ⟨hs1.size, fun i v hi => by
                      obtain ⟨x, hx, hr⟩ := hs1.slots i v hi
                      exact ⟨x, hx, by rw [setB_len]; exact hr⟩, hs1.defers, fun x hx => by rw [setB_len]; exact hs1.scope x hx, q1⟩
                  refine wpIn_mono (hsim2 (some (E.blk b)) E1 a1' _ hs1' hrd1 (by rw [setB_len]; exact ht1.len)) ?_
                  rintro e' a2' W2 ⟨rfl, E2, hs2, ht2⟩
                  have hlt1 : b < h.length := hrd1.1
                  have hblk2 : E2.blk b = E.blk b := by rw [ht2.agree.blk b hlt1, hblk1]
                  obtain ⟨hd2, fn2, vs2, hvs2, hc2⟩ := hs2.heap.ok b _ hb2
                  have fin : ∀ jump, st.pending = jump → v = jump.isNone → st.state = (if jump.isNone then .ready else .done) →
                      ∃ v' w', (Instr.endRound (E.blk b) jump).run P W2 = .ok v' w' ∧ EndsIn E W h (.bool v) (setB s2.heap b (.loopB st m2 t2 p2 a2 c2 d2)) (.returned v') w' := by
                    intro jump hj hv hst
                    obtain ⟨q3, q4⟩ := hs2.heap.setLoop (st' := st) hb2 (fn := fn2) hvs2
                    have hend := run_endRound (P := P) jump hc2
                    rw [hblk2] at hend
                    rw [hblk2, hj, hst] at q3 q4
                    refine ⟨_, _, hend, _, E2, rfl, ?_, q3, (((htn1.trans (q2.to ht1.len)).trans ht2).trans (q4.to ht2.len)).full⟩
                    rw [hv]; exact VR.mkBool
                  cases e2 with
                  | normal =>
                    rcases hcase with ⟨_, rfl, rfl⟩ | ⟨hne, _⟩
                    · exact fin none rfl rfl rfl
                    · exact absurd rfl hne
                  | exit id =>
                    rcases hcase with ⟨he, _⟩ | ⟨_, rfl, rfl⟩
                    · cases he
                    · exact fin (some (.exit id)) rfl rfl rfl
                  | ret =>
                    rcases hcase with ⟨he, _⟩ | ⟨_, rfl, rfl⟩
                    · cases he
                    · exact fin (some .ret) rfl rfl rfl
                split at hk2
                · exact ⟨_, _, _, hk2, rfl, trivial, fun h2 hs => by rw [show h2 = h from hs]; exact main .ready true (.inl ⟨rfl, rfl, rfl⟩)⟩
                · rename_i hne
                  exact ⟨_, _, _, hk2, rfl, trivial, fun h2 hs => by rw [show h2 = h from hs]; exact main (.done e2) false (.inr ⟨fun h => hne h, rfl, rfl⟩)⟩
              · cases hk2
            · cases hk1
        · cases hr
      · cases hr
end
end Go.Eng
