/- ENGINE, PART 8: a region that draws its order. -/
import Derived.Test.YtbocdcnkmcejjaaDoorEngOrder
namespace Go.Eng
open Go
section
variable {P : Program}

theorem maskOf_spec {acc : List Nat} {i : Nat} : ∀ {es : List Edge} {m : Nat}, (maskOf acc es m).testBit i = true → m.testBit i = true ∨ ∃ e ∈ es, Region.binds .any e = true ∧ (e.on = i ∨ (acc.getD e.on 0).testBit i = true)
  | [], m, h => .inl h
  | e :: r, m, h => by
    simp only [maskOf] at h
    rcases maskOf_spec h with h1 | ⟨e', he, hb, h1⟩
    · cases hb : Region.binds .any e with
      | false => rw [hb] at h1; exact .inl h1
      | true =>
        rw [hb] at h1
        simp only [cond_true, Nat.testBit_or, Bool.or_eq_true, Nat.testBit_two_pow, decide_eq_true_eq] at h1
        rcases h1 with (h1 | h1) | h1
        · exact .inl h1
        · exact .inr ⟨e, by simp, hb, .inl h1⟩
        · exact .inr ⟨e, by simp, hb, .inr h1⟩
    · exact .inr ⟨e', by simp [he], hb, h1⟩

theorem masks_prefix : ∀ (l : List Oper) (acc : List Nat), ∃ t, masks l acc = acc ++ t ∧ t.length = l.length
  | [], acc => ⟨[], by simp [masks], rfl⟩
  | o :: r, acc => by
    obtain ⟨t, h1, h2⟩ := masks_prefix r (acc ++ [maskOf acc o.after.toList 0])
    exact ⟨maskOf acc o.after.toList 0 :: t, by simp [masks, h1], by simp [h2]⟩
theorem masks_spec {i : Nat} : ∀ (l : List Oper) (acc : List Nat) (k : Nat) (o : Oper), l[k]? = some o → ((masks l acc).getD (acc.length + k) 0).testBit i = true →
    ∃ e ∈ o.after, Region.binds .any e = true ∧ (e.on = i ∨ (e.on < acc.length + k ∧ ((masks l acc).getD e.on 0).testBit i = true))
  | [], _, _, _, h, _ => by simp at h
  | o :: r, acc, 0, o', h, hb => by
    simp only [List.getElem?_cons_zero, Option.some.injEq] at h
    subst h
    obtain ⟨t, h1, _⟩ := masks_prefix r (acc ++ [maskOf acc o.after.toList 0])
    have hm : masks (o :: r) acc = acc ++ (maskOf acc o.after.toList 0 :: t) := by simp [masks, h1]
    rw [hm] at hb ⊢
    rw [Nat.add_zero, List.getD_eq_getElem?_getD, List.getElem?_append_right (Nat.le_refl _)] at hb
    simp only [Nat.sub_self, List.getElem?_cons_zero, Option.getD_some] at hb
    rcases maskOf_spec hb with h0 | ⟨e, he, hbd, h0⟩
    · simp at h0
    · refine ⟨e, by simpa using he, hbd, ?_⟩
      rcases h0 with h0 | h0
      · exact .inl h0
      · rcases Nat.lt_or_ge e.on acc.length with hlt | hge
        · refine .inr ⟨by omega, ?_⟩
          rw [List.getD_eq_getElem?_getD, List.getElem?_append_left hlt, ← List.getD_eq_getElem?_getD]
          exact h0
        · rw [List.getD_eq_getElem?_getD, List.getElem?_eq_none hge] at h0
          simp at h0
  | o :: r, acc, k + 1, o', h, hb => by
    simp only [List.getElem?_cons_succ] at h
    have := masks_spec (i := i) r (acc ++ [maskOf acc o.after.toList 0]) k o' h (by
      simp only [masks] at hb
      rw [List.length_append]
      simpa [Nat.add_assoc, Nat.add_comm 1 k] using hb)
    simp only [masks]
    rw [List.length_append] at this
    simpa [Nat.add_assoc, Nat.add_comm 1 k] using this

def dirs (listed : Array Bool) (o : Oper) : Prop := ∀ e ∈ o.after, Region.binds .any e = true → listed.getD e.on false = true
def closedL (ops : List Oper) (listed : Array Bool) : Prop := ∀ k o, ops[k]? = some o → listed.getD k false = true → dirs listed o

theorem masks_closed {ops : List Oper} {listed : Array Bool} (hc : closedL ops listed) {i : Nat} : ∀ (k : Nat) (o : Oper), ops[k]? = some o → dirs listed o → ((masks ops []).getD k 0).testBit i = true → listed.getD i false = true := by
  intro k
  induction k using Nat.strongRecOn with
  | _ k ih =>
    intro o ho hd hb
    obtain ⟨e, he, hbd, h⟩ := masks_spec ops [] k o ho (by simpa using hb)
    rcases h with h | ⟨hlt, h⟩
    · rw [← h]; exact hd e he hbd
    · simp at hlt
      have hl := hd e he hbd
      obtain ⟨o', ho'⟩ : ∃ o', ops[e.on]? = some o' := by
        cases h' : ops[e.on]? with
        | some o' => exact ⟨o', rfl⟩
        | none =>
          have h1 := List.getElem?_eq_none_iff.1 h'
          have h2 := getElem?_lt ho
          omega
      exact ih e.on hlt o' ho' (hc e.on o' ho' hl) h

theorem backB_spec : ∀ {l : List Oper} {k : Nat}, backB l k = true → ∀ j o, l[j]? = some o → ∀ e ∈ o.after, Region.binds .any e = true → e.on < k + j
  | [], _, _, _, _, h, _, _, _ => by simp at h
  | o :: r, k, hb, 0, o', h, e, he, hbd => by
    simp only [List.getElem?_cons_zero, Option.some.injEq] at h
    subst h
    simp only [backB, Bool.and_eq_true, List.all_eq_true] at hb
    have := hb.1 e (by simpa using he)
    rw [hbd] at this
    simpa using this
  | o :: r, k, hb, j + 1, o', h, e, he, hbd => by
    simp only [List.getElem?_cons_succ] at h
    simp only [backB, Bool.and_eq_true] at hb
    have := backB_spec hb.2 j o' h e he hbd
    omega

/-- The numbers go up. -/
def ascB : List (Nat × Oper × Did) → Prop
  | [] => True
  | x :: r => (∀ y ∈ r, x.1 < y.1) ∧ ascB r

theorem ascB_remove : ∀ {L1 : List (Nat × Oper × Did)} {x : Nat × Oper × Did} {L2 : List (Nat × Oper × Did)}, ascB (L1 ++ x :: L2) → ascB (L1 ++ L2) ∧ (∀ z ∈ L1, z.1 < x.1) ∧ (∀ z ∈ L2, x.1 < z.1)
  | [], x, L2, h => ⟨h.2, fun z hz => (by cases hz), h.1⟩
  | y :: L1, x, L2, h => by
    obtain ⟨h1, h2, h3⟩ := ascB_remove h.2
    refine ⟨⟨fun z hz => h.1 z ?_, h1⟩, fun z hz => ?_, h3⟩
    · rcases List.mem_append.1 hz with hz | hz
      · simp [hz]
      · simp [hz]
    · rcases List.mem_cons.1 hz with rfl | hz
      · exact h.1 x (by simp)
      · exact h2 z hz
theorem freeB_remove {ops : Array Oper} {m : List Nat} : ∀ {L1 : List (Nat × Oper × Did)} {x : Nat × Oper × Did} {L2 : List (Nat × Oper × Did)}, freeB ops m (L1 ++ x :: L2) = true → freeB ops m (L1 ++ L2) = true ∧ (∀ z ∈ L1, pairB ops m z x = true)
  | [], x, L2, h => by
    simp only [List.nil_append, freeB, Bool.and_eq_true] at h
    exact ⟨h.2, fun z hz => by cases hz⟩
  | y :: L1, x, L2, h => by
    simp only [List.cons_append, freeB, Bool.and_eq_true, List.all_eq_true] at h
    obtain ⟨h1, h2⟩ := freeB_remove h.2
    refine ⟨?_, fun z hz => ?_⟩
    · simp only [List.cons_append, freeB, Bool.and_eq_true, List.all_eq_true]
      refine ⟨fun z hz => h.1 z ?_, h1⟩
      rcases List.mem_append.1 hz with hz | hz
      · simp [hz]
      · simp [hz]
    · rcases List.mem_cons.1 hz with rfl | hz
      · exact h.1 x (by simp)
      · exact h2 z hz

theorem wpAny_of_path {r : Option Nat} {ops : List Oper} {Q : Exit → Act → World → Prop} (hback : backB ops 0 = true) : ∀ (fuel : Nat) (L : List (Nat × Oper × Did)) (listed : Array Bool) (s e : AS) (E : Env) (a : Act) (W : World),
    L.length = fuel → listed.size = ops.length → (∀ i, i < ops.length → (listed.getD i false = true ↔ i ∉ L.map (·.1))) → (∀ x ∈ L, ops[x.1]? = some x.2.1) → closedL ops listed → ascB L →
    freeB ops.toArray (masks ops []) L = true → PathOk P ops s L e → StOk E s a W → (∀ E' a' W', StOk E' e a' W' → Trans E s.heap W E' e.heap W' → Q .normal a' W') →
    wpAnyIn (fen r) 0 P .any ops.toArray Q fuel listed a W := by
  intro fuel
  induction fuel with
  | zero =>
    intro L listed s e E a W hlen hsz hli hop hcl hasc hfree hp hs hq
    have : L = [] := List.eq_nil_of_length_eq_zero hlen
    subst this
    cases hp
    refine ⟨?_, hq E a W hs (Trans.refl _ _ _)⟩
    apply List.eq_nil_iff_forall_not_mem.2
    intro i hi
    obtain ⟨h1, o, ho, _⟩ := mem_ready.1 hi
    have hlt : i < ops.length := by
      have := (Array.getElem?_eq_some_iff.1 ho).1; simpa using this
    have := (hli i hlt).2 (by simp)
    have hs' : i < listed.size := by omega
    simp [hs'] at h1 this
    rw [h1] at this; cases this
  | succ fuel ih =>
    intro L listed s e E a W hlen hsz hli hop hcl hasc hfree hp hs hq
    have both : ∀ {i : Nat}, i < ops.length → listed.getD i true = listed.getD i false := fun {i} hi => by
      have : i < listed.size := by omega
      simp [this]
    refine ⟨fun hr => ?_, fun i hi => ?_⟩
    · -- something is ready: the first one
      exfalso
      match L, hlen with
      | (i, o, x) :: r, _ =>
        have hio := hop (i, o, x) (by simp)
        have hlt : i < ops.length := getElem?_lt hio
        have : i ∈ Region.ready .any ops.toArray listed := by
          refine mem_ready.2 ⟨?_, o, by simpa using hio, fun ed he hb => ?_⟩
          · rw [both hlt]
            cases hx : listed.getD i false with
            | false => rfl
            | true => exact absurd ((hli i hlt).1 hx) (by simp)
          · have hon := backB_spec hback i o hio ed he hb
            refine (hli ed.on (by omega)).2 fun hm => ?_
            simp only [List.map_cons, List.mem_cons] at hm
            rcases hm with hm | hm
            · omega
            · obtain ⟨y, hy, hye⟩ := List.mem_map.1 hm
              have := hasc.1 y hy
              omega
        rw [hr] at this; cases this
    · obtain ⟨h1, o, ho, hd⟩ := mem_ready.1 hi
      have hio : ops[i]? = some o := by simpa using ho
      have hlt : i < ops.length := getElem?_lt hio
      rw [both hlt] at h1
      have hmem : i ∈ L.map (·.1) := by
        apply Classical.byContradiction
        intro hn
        have := (hli i hlt).2 hn
        rw [h1] at this; cases this
      obtain ⟨y, hy, hyi⟩ := List.mem_map.1 hmem
      obtain ⟨L1, L2, rfl⟩ := List.append_of_mem hy
      obtain ⟨i', o', x⟩ := y
      simp only at hyi
      subst hyi
      have ho' : o' = o := by
        have := hop (i', o', x) (by simp)
        simp only at this
        rw [hio] at this
        injection this with this
        exact this.symm
      subst ho'
      obtain ⟨hasc', hl1, hl2⟩ := ascB_remove hasc
      obtain ⟨hfree', hpair⟩ := freeB_remove hfree
      have hcomm_ : ∀ z ∈ L1, z.2.1.apart ops.toArray o' = true ∧ hcomm z.2.2 x = true := fun z hz => by
        have := hpair z hz
        simp only [pairB, Bool.or_eq_true, Bool.and_eq_true] at this
        rcases this with h | h
        · exfalso
          have hlz : listed.getD z.1 false = true := masks_closed hcl i' o' hio hd h
          have hzlt : z.1 < ops.length := getElem?_lt (hop z (by simp [hz]))
          exact (hli z.1 hzlt).1 hlz (by
            simp only [List.map_append, List.mem_append]
            exact .inl (List.mem_map.2 ⟨z, hz, rfl⟩))
        · exact h
      obtain ⟨_, hx, hp'⟩ := PathOk.front hp hcomm_
      refine hx.wp hio hs fun E' a' W' hs' ht => ?_
      have getset : ∀ j, (listed.setIfInBounds i' true).getD j false = if j = i' then true else listed.getD j false := fun j => by
        have hlt' : i' < listed.size := by omega
        by_cases hj : j = i'
        · subst hj; simp [hlt']
        · rw [if_neg hj, Array.getD_eq_getD_getElem?, Array.getElem?_setIfInBounds_ne (Ne.symm hj), ← Array.getD_eq_getD_getElem?]
      refine ih (L1 ++ L2) (listed.setIfInBounds i' true) _ e E' a' W' (by simp at hlen ⊢; omega) (by simp [hsz]) (fun j hj => ?_) (fun y hy => hop y ?_) (fun k ok hk hlk ed he hb => ?_) hasc' hfree' hp' hs' (fun E'' a'' W'' hs'' ht' => hq E'' a'' W'' hs'' (ht.trans ht'))
      · rw [getset]
        by_cases hji : j = i'
        · subst hji
          rw [if_pos rfl]
          refine ⟨fun _ hm => ?_, fun _ => rfl⟩
          simp only [List.map_append, List.mem_append, List.mem_map] at hm
          rcases hm with ⟨y, hy, hyj⟩ | ⟨y, hy, hyj⟩
          · have := hl1 y hy; simp only at this; omega
          · have := hl2 y hy; simp only at this; omega
        · rw [if_neg hji, hli j hj]
          simp only [List.map_append, List.map_cons, List.mem_append, List.mem_cons, not_or]
          exact ⟨fun h => ⟨h.1, h.2.2⟩, fun h => ⟨h.1, hji, h.2⟩⟩
      · rcases List.mem_append.1 hy with hy | hy
        · simp [hy]
        · simp [hy]
      · rw [getset]
        split
        · rfl
        · rw [getset] at hlk
          split at hlk
          · rename_i hki
            subst hki
            rw [hio] at hk
            injection hk with hk
            subst hk
            exact hd ed he hb
          · exact hcl k ok hk hlk ed he hb

end
end Go.Eng
