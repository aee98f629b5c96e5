/- ENGINE, PART 12: less may be known of a state. -/
import Derived.Test.YtbocdcnkmcejjaaDoorEngRen
namespace Go.Eng
open Go

def rowIn (n : Nat) : Row → Bool
  | .vs l => inSs n l
  | _ => true
theorem rowIn_ok {n : Nat} {row : Row} (h : rowIn n row = true) : inSs n row.toVs = true := by
  cases row with
  | vs l => exact h
  | ints k l => rw [inSs_eq, List.all_eq_true]; intro v hv; obtain ⟨z, _, rfl⟩ := List.mem_map.1 hv; rfl
  | strs l => rw [inSs_eq, List.all_eq_true]; intro v hv; obtain ⟨z, _, rfl⟩ := List.mem_map.1 hv; rfl
def slotIn (n : Nat) : V → Bool
  | .top => true
  | v => inS n v
theorem slotIn_ok {n m : Nat} {E : Env} {v : V} {x : Value} (h : slotIn n v = true) (hv : VR E m v x) : VR E n v x := by
  rcases hv with rfl | ⟨_, h2⟩
  · exact .inl rfl
  · by_cases ht : v = .top
    · exact .inl ht
    · refine .inr ⟨?_, h2⟩
      cases v <;> first | exact h | exact absurd rfl ht
def slotsIn (n : Nat) : List V → Bool
  | [] => true
  | v :: r => slotIn n v && slotsIn n r
theorem slotsIn_get {n : Nat} : ∀ {l : List V} {i : Nat} {v : V}, slotsIn n l = true → l[i]? = some v → slotIn n v = true
  | [], i, v, _, h => by simp at h
  | u :: r, 0, v, hs, h => by
    simp only [slotsIn, Bool.and_eq_true] at hs
    simp only [List.getElem?_cons_zero, Option.some.injEq] at h
    subst h; exact hs.1
  | u :: r, i + 1, v, hs, h => by
    simp only [slotsIn, Bool.and_eq_true] at hs
    simp only [List.getElem?_cons_succ] at h
    exact slotsIn_get hs.2 h
def blkIn (n : Nat) : Blk → Bool
  | .dead | .defs => true
  | .ro r | .glob _ r | .rs _ _ r | .own _ r | .grow _ _ _ r => rowIn n r
  | .loopB _ _ tmps _ _ _ d => slotsIn n tmps && Nat.blt d n

def renR (ρ : Nat → Nat) : Row → Row
  | .vs l => .vs (renVs ρ l)
  | r => r
theorem renR_vs (E : Env) (ρ : Nat → Nat) (r : Row) : concs (E.ren ρ) r.toVs = concs E (renR ρ r).toVs := by
  cases r with
  | vs l => exact concs_ren E ρ l
  | ints k l => simp only [renR, Row.toVs, concs_eq, List.map_map]; rfl
  | strs l => simp only [renR, Row.toVs, concs_eq, List.map_map]; rfl
theorem renR_len (ρ : Nat → Nat) (r : Row) : (renR ρ r).len = r.len := by
  cases r with
  | vs l =>
    simp only [renR, Row.len]
    induction l with
    | nil => rfl
    | cons v q ih => simp only [renVs, List.length_cons, ih]
  | _ => rfl
/-- The second block, its names read by ρ, says no more than the first one. -/
inductive BlkW (ρ : Nat → Nat) (n : Nat) : Blk → Blk → Prop
  | dead (b : Blk) : BlkW ρ n b .dead
  | defs : BlkW ρ n .defs .defs
  | ro (r : Row) : rowIn n r = true → BlkW ρ n (.ro (renR ρ r)) (.ro r)
  | glob (g : Nat) (r : Row) : rowIn n r = true → BlkW ρ n (.glob g (renR ρ r)) (.glob g r)
  | rs (nn : Bool) (sz : Nat) (r : Row) : rowIn n r = true → BlkW ρ n (.rs nn sz (renR ρ r)) (.rs nn sz r)
  | own (ty : TypeId) (r : Row) : rowIn n r = true → BlkW ρ n (.own ty (renR ρ r)) (.own ty r)
  | grow (nn nn' : Bool) (ty : TypeId) (sz : Nat) (r : Row) : rowIn n r = true → (nn' = true → nn = true) → BlkW ρ n (.grow nn ty sz (renR ρ r)) (.grow nn' ty sz r)
  | loopB (st : LSt) (me : FuncId) (tmps : List V) (ps : List Tmp) (assign body : Code) (d : Nat) : slotsIn n tmps = true → d < n → BlkW ρ n (.loopB st me (renVs ρ tmps) ps assign body (ρ d)) (.loopB st me tmps ps assign body d)

/-- The second state says no more than the first one; its blocks have other names from n0 on. -/
structure Sub (n0 : Nat) (ρ : Nat → Nat) (s s2 : AS) : Prop where
  same : ∀ b, b < n0 → ρ b = b
  inj : ∀ b b', b < s2.heap.length → b' < s2.heap.length → ρ b = ρ b' → b = b'
  tlen : s2.tmps.length = s.tmps.length
  tmps : ∀ (i : Nat) v, s2.tmps[i]? = some v → v = .top ∨ (s.tmps[i]? = some (renV ρ v) ∧ inS s2.heap.length v = true)
  heap : ∀ (b : Nat) blk2, s2.heap[b]? = some blk2 → ∃ blk, s.heap[ρ b]? = some blk ∧ BlkW ρ s2.heap.length blk blk2
  marks : s2.marks.map ρ = s.marks
  scope : ∀ b ∈ s2.marks, b < s2.heap.length
  base : n0 ≤ s2.heap.length

theorem renVs_eq (ρ : Nat → Nat) (l : List V) : renVs ρ l = l.map (renV ρ) := by
  induction l with
  | nil => rfl
  | cons v r ih => simp [renVs, ih]
theorem renR_get {ρ : Nat → Nat} {r : Row} {i : Nat} {v : V} (h : r.toVs[i]? = some v) : (renR ρ r).toVs[i]? = some (renV ρ v) := by
  cases r with
  | vs l => simp only [renR, Row.toVs, renVs_eq, List.getElem?_map] at h ⊢; rw [h]; rfl
  | ints k l =>
    simp only [renR, Row.toVs, List.getElem?_map] at h ⊢
    cases hl : l[i]? with
    | none => rw [hl] at h; cases h
    | some z => rw [hl] at h; cases h; rfl
  | strs l =>
    simp only [renR, Row.toVs, List.getElem?_map] at h ⊢
    cases hl : l[i]? with
    | none => rw [hl] at h; cases h
    | some z => rw [hl] at h; cases h; rfl
theorem BlkOk.weak {E : Env} {ρ : Nat → Nat} {n m : Nat} {W : World} {b : Nat} {blk blk2 : Blk} (hk : BlkOk E n W (ρ b) blk) (hw : BlkW ρ m blk blk2) : BlkOk (E.ren ρ) m W b blk2 := by
  cases hw with
  | dead => trivial
  | defs => exact hk
  | ro r h => exact ⟨rowIn_ok h, fun i v hi => by rw [conc_ren]; exact hk.2 i _ (renR_get hi)⟩
  | glob g r h => exact ⟨hk.1, hk.2.1, rowIn_ok h, fun i v hi => by rw [conc_ren]; exact hk.2.2.2 i _ (renR_get hi)⟩
  | rs nn sz r h =>
    obtain ⟨_, h2, h3, h4, h5, h6⟩ := hk
    rw [renR_len] at h3 h5
    exact ⟨rowIn_ok h, h2, h3, h4, h5, fun hn i v hi => by rw [conc_ren]; exact h6 hn i _ (renR_get hi)⟩
  | own ty r h =>
    obtain ⟨h1, _, fz, h3, h4⟩ := hk
    rw [renR_len] at h3
    exact ⟨h1, rowIn_ok h, fz, h3, by rw [renR_vs]; exact h4⟩
  | grow nn nn' ty sz r h hnn =>
    obtain ⟨h1, _, h3, h4, h5, h6, h7⟩ := hk
    rw [renR_len] at h4 h6
    refine ⟨h1, rowIn_ok h, h3, h4, h5, fun hn => ⟨(h6 hn).1, ?_⟩, fun hn => ?_⟩
    · cases nn' with
      | false => rfl
      | true => have := (h6 hn).2; rw [hnn rfl] at this; cases this
    · obtain ⟨fz, spare, k1, k2, k3⟩ := h7 hn
      rw [renR_len] at k1 k2
      exact ⟨fz, spare, k1, k2, by rw [renR_vs]; exact k3⟩
  | loopB st me tmps ps assign body d h hd =>
    obtain ⟨_, fn, vs, ⟨h1, h2⟩, hc⟩ := hk
    refine ⟨hd, fn, vs, ⟨by rw [h1, renVs_eq, List.length_map], fun i v hi => ?_⟩, hc⟩
    obtain ⟨x, hx, hr⟩ := h2 i (renV ρ v) (by rw [renVs_eq, List.getElem?_map, hi]; rfl)
    refine ⟨x, hx, ?_⟩
    by_cases ht : v = .top
    · exact .inl ht
    · refine .inr ⟨?_, ?_⟩
      · have := slotsIn_get h hi
        cases v <;> first | exact this | exact absurd rfl ht
      · rw [conc_ren]
        exact (hr.val (by cases v <;> simp_all [renV])).1

theorem renR_empty (ρ : Nat → Nat) (r : Row) : (renR ρ r).toVs.isEmpty = r.toVs.isEmpty := by
  have := renR_len ρ r
  rw [Row.len_eq, Row.len_eq] at this
  cases h1 : (renR ρ r).toVs <;> cases h2 : r.toVs <;> simp_all
theorem BlkW.mine {ρ : Nat → Nat} {n : Nat} {blk blk2 : Blk} (hw : BlkW ρ n blk blk2) {E : Env} {b : Nat} (hl : liveAt (E.ren ρ) b blk2 = true) : liveAt E (ρ b) blk = true ∧ (blk2.mine = true → blk.mine = true) := by
  cases hw with
  | dead => simp [liveAt] at hl
  | defs => exact ⟨hl, id⟩
  | ro r => exact ⟨by simp only [liveAt, renR_empty] at hl ⊢; exact hl, id⟩
  | glob g r => exact ⟨by simp only [liveAt, renR_empty] at hl ⊢; exact hl, id⟩
  | rs nn sz r => exact ⟨by simp only [liveAt, renR_empty] at hl ⊢; exact hl, id⟩
  | own ty r => exact ⟨rfl, id⟩
  | grow nn nn' ty sz r => exact ⟨hl, id⟩
  | loopB => exact ⟨rfl, id⟩
theorem Sub.holds {n0 : Nat} {ρ : Nat → Nat} {s s2 : AS} (hs : Sub n0 ρ s s2) {E : Env} {W : World} (hh : Holds E s.heap W) : Holds (E.ren ρ) s2.heap W := by
  refine ⟨fun b blk2 hb => ?_, fun b b' x x' hb hb' hm hl hl' he => ?_⟩
  · obtain ⟨blk, h1, h3⟩ := hs.heap b blk2 hb
    exact (hh.ok _ blk h1).weak h3
  · obtain ⟨y, h1, h3⟩ := hs.heap b x hb
    obtain ⟨y', h1', h3'⟩ := hs.heap b' x' hb'
    obtain ⟨q1, q2⟩ := h3.mine hl
    exact hs.inj b b' (getElem?_lt hb) (getElem?_lt hb') (hh.inj _ _ y y' h1 h1' (q2 hm) q1 (h3'.mine hl').1 he)
theorem Sub.mine {n0 : Nat} {ρ : Nat → Nat} {s s2 : AS} (hs : Sub n0 ρ s s2) {E : Env} {k : Nat} (hm : Mine (E.ren ρ) s2.heap k) : Mine E s.heap k := by
  obtain ⟨b, x, hb, h1, h2', h3⟩ := hm
  obtain ⟨y, hy, hw'⟩ := hs.heap b x hb
  obtain ⟨q1, q2⟩ := hw'.mine h2'
  exact ⟨ρ b, y, hy, q2 h1, q1, h3⟩
theorem marks_ren {E : Env} {ρ : Nat → Nat} : ∀ l : List Nat, marksOf (E.ren ρ) l = marksOf E (l.map ρ)
  | [] => rfl
  | b :: r => by simp only [marksOf, List.map_cons, marks_ren r]; rfl
theorem StOk.weak {n0 : Nat} {ρ : Nat → Nat} {E : Env} {s s2 : AS} {a : Act} {W : World} (h : StOk E s a W) (hs : Sub n0 ρ s s2) : StOk (E.ren ρ) s2 a W := by
  refine ⟨by rw [hs.tlen]; exact h.size, fun i v hi => ?_, by rw [marks_ren, hs.marks]; exact h.defers, hs.scope, hs.holds h.heap⟩
  rcases hs.tmps i v hi with rfl | ⟨h1, h2⟩
  · have hlt := getElem?_lt hi
    rw [hs.tlen, ← h.size] at hlt
    exact ⟨a.tmps[i], Array.getElem?_eq_getElem hlt, .inl rfl⟩
  · obtain ⟨x, hx, hr⟩ := h.slots i _ h1
    refine ⟨x, hx, ?_⟩
    by_cases ht : v = .top
    · exact .inl ht
    · exact .inr ⟨h2, by rw [conc_ren]; exact (hr.val (by cases v <;> simp_all [renV])).1⟩
theorem TransN.weak {n0 : Nat} {ρ : Nat → Nat} {E0 E : Env} {h0 : List Blk} {W0 W : World} {s s2 : AS} (t : TransN n0 E0 h0 W0 E s.heap W) (hs : Sub n0 ρ s s2) : TransN n0 E0 h0 W0 (E.ren ρ) s2.heap W :=
  ⟨t.agree.trans (Agree.ren hs.same) (Nat.le_refl _), hs.base, fun k hk => t.mine k (hs.mine hk), t.frame, t.size, t.os, t.tape, t.output⟩
theorem TransN.pre {n0 : Nat} {ρ : Nat → Nat} {E E' : Env} {h' : List Blk} {W W' : World} {s s2 : AS} (hs : Sub n0 ρ s s2) (t : TransN n0 (E.ren ρ) s2.heap W E' h' W') : TransN n0 E s.heap W E' h' W' :=
  ⟨(Agree.ren hs.same).trans t.agree (Nat.le_refl _), t.len, fun k hk => (t.mine k hk).imp hs.mine id, fun k hk hn => t.frame k hk (fun hm => hn (hs.mine hm)), t.size, t.os, t.tape, t.output⟩
theorem SimC.post {P : Program} {n0 : Nat} {rd : Option Nat} {c : Code} {s s1 s2 : AS} {e : XE} {ρ : Nat → Nat} (h : SimC P n0 rd c s e s1) (hs : Sub n0 ρ s1 s2) : SimC P n0 rd c s e s2 := fun ro E a W hst hro hn =>
  wpIn_mono (h ro E a W hst hro hn) (by
    rintro e' a' W' ⟨rfl, E', h1, h2⟩
    exact ⟨rfl, _, h1.weak hs, h2.weak hs⟩)
theorem SimC.pre {P : Program} {n0 : Nat} {rd : Option Nat} {c : Code} {s s2 s' : AS} {e : XE} {ρ : Nat → Nat} (hs : Sub n0 ρ s s2) (h : SimC P n0 rd c s2 e s') : SimC P n0 rd c s e s' := fun ro E a W hst hro _ =>
  wpIn_mono (h ro _ a W (hst.weak hs) (hro.agree (Agree.ren hs.same) (Nat.le_refl _)) hs.base) (by
    rintro e' a' W' ⟨rfl, E', h1, h2⟩
    exact ⟨rfl, E', h1, TransN.pre hs h2⟩)

/-- A loop that is left within n rounds. -/
def SimL (P : Program) (n0 : Nat) (rd : Option Nat) (c : Code) (n : Nat) (s : AS) (e : XE) (s' : AS) : Prop :=
  ∀ ro E a W, StOk E s a W → RdOk E n0 ro rd → n0 ≤ s.heap.length → ∀ Q : Exit → Act → World → Prop, (∀ E' a' W', StOk E' s' a' W' → TransN n0 E s.heap W E' s'.heap W' → Q e.toExit a' W') → Code.roundsIn (fen ro) 0 P c Q n a W
theorem SimL.loop {P : Program} {n0 : Nat} {rd : Option Nat} {c : Code} {n : Nat} {s s' : AS} {e : XE} (h : SimL P n0 rd c n s e s') : SimC P n0 rd (.loop c) s e s' := fun ro E a W hst hro hn =>
  wpIn_loop_rounds n (h ro E a W hst hro hn _ fun E' _ _ h1 h2 => ⟨rfl, E', h1, h2⟩)
theorem SimC.leave {P : Program} {n0 : Nat} {rd : Option Nat} {c : Code} {s s' : AS} {e : XE} (h : SimC P n0 rd c s e s') (he : e ≠ .normal) : SimL P n0 rd c 1 s e s' := fun ro E a W hst hro hn Q hQ => by
  rw [roundsIn_succ]
  refine wpIn_mono (h ro E a W hst hro hn) ?_
  rintro e' a' W' ⟨rfl, E', h1, h2⟩
  cases e with
  | normal => exact absurd rfl he
  | exit id => exact hQ E' a' W' h1 h2
  | ret => exact hQ E' a' W' h1 h2
theorem SimC.step {P : Program} {n0 : Nat} {rd : Option Nat} {c : Code} {n : Nat} {s s1 s' : AS} {e : XE} (h : SimC P n0 rd c s .normal s1) (h1 : SimL P n0 rd c n s1 e s') : SimL P n0 rd c (n + 1) s e s' := fun ro E a W hst hro hn Q hQ => by
  rw [roundsIn_succ]
  refine wpIn_mono (h ro E a W hst hro hn) ?_
  rintro e' a' W' ⟨rfl, E', h2, h3⟩
  exact h1 ro E' a' W' h2 (hro.agree h3.agree (Nat.le_refl _)) h3.len Q fun E'' a'' W'' h4 h5 => hQ E'' a'' W'' h4 (h3.trans h5)

/-- A loop over a family of states, with a measure. Each round from a state of the family leads to one of a smaller measure with the same end, or it leaves the loop as is claimed. -/
theorem loop_ind {P : Program} {n0 : Nat} {rd : Option Nat} {c : Code} {X : Type} (S : X → AS) (inv : X → Prop) (μ : X → Nat) (fin : X → XE × AS)
    (round : ∀ x, inv x → ∃ e s1, SimC P n0 rd c (S x) e s1 ∧
      ((e = .normal ∧ ∃ y ρ, Sub n0 ρ s1 (S y) ∧ inv y ∧ μ y < μ x ∧ fin y = fin x) ∨ (e ≠ .normal ∧ e = (fin x).1 ∧ ∃ ρ, Sub n0 ρ s1 (fin x).2))) :
    ∀ x, inv x → SimC P n0 rd (.loop c) (S x) (fin x).1 (fin x).2 := by
  have key : ∀ m x, μ x = m → inv x → ∃ n, SimL P n0 rd c n (S x) (fin x).1 (fin x).2 := by
    intro m
    induction m using Nat.strongRecOn with
    | _ m ih =>
      intro x hm hx
      obtain ⟨e, s1, h, hc⟩ := round x hx
      rcases hc with ⟨rfl, y, ρ, hs, hy, hlt, hf⟩ | ⟨hne, rfl, ρ, hs⟩
      · obtain ⟨n, hn⟩ := ih (μ y) (hm ▸ hlt) y rfl hy
        rw [hf] at hn
        exact ⟨n + 1, (h.post hs).step hn⟩
      · exact ⟨1, (h.post hs).leave hne⟩
  intro x hx
  obtain ⟨n, hn⟩ := key _ x rfl hx
  exact hn.loop
end Go.Eng
