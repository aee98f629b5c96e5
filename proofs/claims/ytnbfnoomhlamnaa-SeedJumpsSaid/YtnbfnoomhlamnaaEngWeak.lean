/- ENGINE, PART 12: less may be known of a state. -/
import Derived.Test.YtnbfnoomhlamnaaEngInl
namespace Go.Eng
open Go

def rowIn (n : Nat) : Row → Bool
  | .vs l => inSs n l
  | _ => true
theorem rowIn_ok {n : Nat} {row : Row} (h : rowIn n row = true) : inSs n row.toVs = true := by
  cases row with
  | vs l => exact h
  | ints k l => rw [inSs_eq, List.all_eq_true]; intro v hv; obtain ⟨z, _, rfl⟩ := List.mem_map.1 hv; rfl
  | strs l => rw [inSs_eq, List.all_eq_true]; intro v hv; obtain ⟨z, _, rfl⟩ := List.mem_map.1 hv; rfl
def slotIn (n : Nat) : V → Bool
  | .top => true
  | v => inS n v
theorem slotIn_ok {n m : Nat} {E : Env} {v : V} {x : Value} (h : slotIn n v = true) (hv : VR E m v x) : VR E n v x := by
  rcases hv with rfl | ⟨_, h2⟩
  · exact .inl rfl
  · by_cases ht : v = .top
    · exact .inl ht
    · refine .inr ⟨?_, h2⟩
      cases v <;> first | exact h | exact absurd rfl ht
def slotsIn (n : Nat) : List V → Bool
  | [] => true
  | v :: r => slotIn n v && slotsIn n r
theorem slotsIn_get {n : Nat} : ∀ {l : List V} {i : Nat} {v : V}, slotsIn n l = true → l[i]? = some v → slotIn n v = true
  | [], i, v, _, h => by simp at h
  | u :: r, 0, v, hs, h => by
    simp only [slotsIn, Bool.and_eq_true] at hs
    simp only [List.getElem?_cons_zero, Option.some.injEq] at h
    subst h; exact hs.1
  | u :: r, i + 1, v, hs, h => by
    simp only [slotsIn, Bool.and_eq_true] at hs
    simp only [List.getElem?_cons_succ] at h
    exact slotsIn_get hs.2 h
def blkIn (n : Nat) : Blk → Bool
  | .dead | .defs => true
  | .ro r | .glob _ r | .rs _ _ r | .own _ r | .grow _ _ _ r => rowIn n r
  | .loopB _ _ tmps _ _ _ d => slotsIn n tmps && Nat.blt d n

/-- The second block says no more than the first one. -/
inductive BlkW (n : Nat) : Blk → Blk → Prop
  | dead (b : Blk) : BlkW n b .dead
  | same (b : Blk) : blkIn n b = true → BlkW n b b
  | nil (ty : TypeId) (sz : Nat) (row : Row) : rowIn n row = true → BlkW n (.grow true ty sz row) (.grow false ty sz row)

structure Sub (s s2 : AS) : Prop where
  tlen : s2.tmps.length = s.tmps.length
  tmps : ∀ (i : Nat) v, s2.tmps[i]? = some v → v = .top ∨ (s.tmps[i]? = some v ∧ inS s2.heap.length v = true)
  hlen : s2.heap.length ≤ s.heap.length
  heap : ∀ (b : Nat) blk2, s2.heap[b]? = some blk2 → ∃ blk, s.heap[b]? = some blk ∧ BlkW s2.heap.length blk blk2
  marks : s2.marks = s.marks
  scope : ∀ b ∈ s2.marks, b < s2.heap.length

theorem BlkOk.weak {E : Env} {n m : Nat} {W : World} {b : Nat} {blk blk2 : Blk} (hk : BlkOk E n W b blk) (hw : BlkW m blk blk2) : BlkOk E m W b blk2 := by
  cases hw with
  | dead => trivial
  | same _ h =>
    cases blk with
    | dead => trivial
    | defs => exact hk
    | loopB st me tmps ps assign body d =>
      simp only [blkIn, Bool.and_eq_true] at h
      obtain ⟨hd, fn, vs, ⟨h1, h2⟩, hc⟩ := hk
      refine ⟨by simpa using h.2, fn, vs, ⟨h1, fun i v hi => ?_⟩, hc⟩
      obtain ⟨x, hx, hr⟩ := h2 i v hi
      exact ⟨x, hx, slotIn_ok (slotsIn_get h.1 hi) hr⟩
    | ro row => exact ⟨rowIn_ok h, hk.2⟩
    | glob g row => exact ⟨hk.1, hk.2.1, rowIn_ok h, hk.2.2.2⟩
    | rs nn sz row => exact ⟨rowIn_ok h, hk.2⟩
    | own ty row => exact ⟨hk.1, rowIn_ok h, hk.2.2⟩
    | grow nn ty sz row => exact ⟨hk.1, rowIn_ok h, hk.2.2⟩
  | nil ty sz row h =>
    obtain ⟨h1, _, h3, h4, h5, h6, h7⟩ := hk
    exact ⟨h1, rowIn_ok h, h3, h4, h5, fun hn => ⟨(h6 hn).1, rfl⟩, h7⟩
theorem BlkW.mine {n : Nat} {blk blk2 : Blk} (hw : BlkW n blk blk2) {E : Env} {b : Nat} (hl : liveAt E b blk2 = true) : liveAt E b blk = true ∧ (blk2.mine = true → blk.mine = true) := by
  cases hw with
  | dead => simp [liveAt] at hl
  | same => exact ⟨hl, id⟩
  | nil => exact ⟨by simpa [liveAt] using hl, id⟩

theorem Holds.weak {E : Env} {h h2 : List Blk} {W : World} (hh : Holds E h W) (hw : ∀ (b : Nat) blk2, h2[b]? = some blk2 → ∃ blk, h[b]? = some blk ∧ BlkW h2.length blk blk2) : Holds E h2 W := by
  refine ⟨fun b blk2 hb => ?_, fun b b' x x' hb hb' hm hl hl' he => ?_⟩
  · obtain ⟨blk, h1, h3⟩ := hw b blk2 hb
    exact (hh.ok b blk h1).weak h3
  · obtain ⟨y, h1, h3⟩ := hw b x hb
    obtain ⟨y', h1', h3'⟩ := hw b' x' hb'
    obtain ⟨q1, q2⟩ := h3.mine hl
    exact hh.inj b b' y y' h1 h1' (q2 hm) q1 (h3'.mine hl').1 he
theorem Mine.weak {E : Env} {h h2 : List Blk} (hw : ∀ (b : Nat) blk2, h2[b]? = some blk2 → ∃ blk, h[b]? = some blk ∧ BlkW h2.length blk blk2) {k : Nat} (hm : Mine E h2 k) : Mine E h k := by
  obtain ⟨b, x, hb, h1, h2', h3⟩ := hm
  obtain ⟨y, hy, hw'⟩ := hw b x hb
  obtain ⟨q1, q2⟩ := hw'.mine h2'
  exact ⟨b, y, hy, q2 h1, q1, h3⟩

theorem StOk.weak {E : Env} {s s2 : AS} {a : Act} {W : World} (h : StOk E s a W) (hs : Sub s s2) : StOk E s2 a W := by
  refine ⟨by rw [hs.tlen]; exact h.size, fun i v hi => ?_, by rw [hs.marks]; exact h.defers, hs.scope, h.heap.weak hs.heap⟩
  rcases hs.tmps i v hi with rfl | ⟨h1, h2⟩
  · have hlt := getElem?_lt hi
    rw [hs.tlen, ← h.size] at hlt
    exact ⟨a.tmps[i], Array.getElem?_eq_getElem hlt, .inl rfl⟩
  · obtain ⟨x, hx, hr⟩ := h.slots i v h1
    refine ⟨x, hx, ?_⟩
    rcases hr with rfl | ⟨_, hr⟩
    · exact .inl rfl
    · exact .inr ⟨h2, hr⟩
theorem Trans.weak {E0 E : Env} {h0 : List Blk} {W0 W : World} {s s2 : AS} (t : Trans E0 h0 W0 E s.heap W) (hs : Sub s s2) (hl : h0.length ≤ s2.heap.length) : Trans E0 h0 W0 E s2.heap W :=
  ⟨t.agree, hl, fun k hk => t.mine k (hk.weak hs.heap), t.frame, t.size, t.os, t.tape, t.output⟩
theorem Trans.pre {E E' : Env} {h' : List Blk} {W W' : World} {s s2 : AS} (hs : Sub s s2) (hl : s2.heap.length = s.heap.length) (t : Trans E s2.heap W E' h' W') : Trans E s.heap W E' h' W' :=
  ⟨by rw [← hl]; exact t.agree, by rw [← hl]; exact t.len, fun k hk => (t.mine k hk).imp (fun hm => hm.weak hs.heap) id,
   fun k hk hn => t.frame k hk (fun hm => hn (hm.weak hs.heap)), t.size, t.os, t.tape, t.output⟩

theorem SimC.post {P : Program} {rd : Option Nat} {c : Code} {s s1 s2 : AS} {e : XE} (h : SimC P rd c s e s1) (hs : Sub s1 s2) (hl : s.heap.length ≤ s2.heap.length) : SimC P rd c s e s2 := fun ro E a W hst hro =>
  wpIn_mono (h ro E a W hst hro) (by
    rintro e' a' W' ⟨rfl, E', h1, h2⟩
    exact ⟨rfl, E', h1.weak hs, h2.weak hs hl⟩)
theorem SimC.pre {P : Program} {rd : Option Nat} {c : Code} {s s2 s' : AS} {e : XE} (hs : Sub s s2) (hl : s2.heap.length = s.heap.length) (h : SimC P rd c s2 e s') : SimC P rd c s e s' := fun ro E a W hst hro =>
  wpIn_mono (h ro E a W (hst.weak hs) (by rw [hl]; exact hro)) (by
    rintro e' a' W' ⟨rfl, E', h1, h2⟩
    exact ⟨rfl, E', h1, Trans.pre hs hl h2⟩)

/-- A loop that is left within n rounds. -/
def SimL (P : Program) (rd : Option Nat) (c : Code) (n : Nat) (s : AS) (e : XE) (s' : AS) : Prop :=
  ∀ ro E a W, StOk E s a W → RdOk E s.heap.length ro rd → ∀ Q : Exit → Act → World → Prop, (∀ E' a' W', StOk E' s' a' W' → Trans E s.heap W E' s'.heap W' → Q e.toExit a' W') → Code.roundsIn (fen ro) 0 P c Q n a W
theorem SimL.loop {P : Program} {rd : Option Nat} {c : Code} {n : Nat} {s s' : AS} {e : XE} (h : SimL P rd c n s e s') : SimC P rd (.loop c) s e s' := fun ro E a W hst hro =>
  wpIn_loop_rounds n (h ro E a W hst hro _ fun E' _ _ h1 h2 => ⟨rfl, E', h1, h2⟩)
theorem SimC.leave {P : Program} {rd : Option Nat} {c : Code} {s s' : AS} {e : XE} (h : SimC P rd c s e s') (he : e ≠ .normal) : SimL P rd c 1 s e s' := fun ro E a W hst hro Q hQ => by
  rw [roundsIn_succ]
  refine wpIn_mono (h ro E a W hst hro) ?_
  rintro e' a' W' ⟨rfl, E', h1, h2⟩
  cases e with
  | normal => exact absurd rfl he
  | exit id => exact hQ E' a' W' h1 h2
  | ret => exact hQ E' a' W' h1 h2
theorem SimC.step {P : Program} {rd : Option Nat} {c : Code} {n : Nat} {s s1 s' : AS} {e : XE} (h : SimC P rd c s .normal s1) (h1 : SimL P rd c n s1 e s') : SimL P rd c (n + 1) s e s' := fun ro E a W hst hro Q hQ => by
  rw [roundsIn_succ]
  refine wpIn_mono (h ro E a W hst hro) ?_
  rintro e' a' W' ⟨rfl, E', h2, h3⟩
  exact h1 ro E' a' W' h2 (hro.agree h3.agree h3.len) Q fun E'' a'' W'' h4 h5 => hQ E'' a'' W'' h4 (h3.trans h5)

/-- A loop over a family of states, with a measure. Each round from a state of the family leads to one of a smaller measure with the same end, or it leaves the loop as is claimed. -/
theorem loop_ind {P : Program} {rd : Option Nat} {c : Code} {X : Type} (S : X → AS) (inv : X → Prop) (μ : X → Nat) (fin : X → XE × AS)
    (hfin : ∀ x, inv x → (S x).heap.length ≤ (fin x).2.heap.length)
    (round : ∀ x, inv x → ∃ e s1, SimC P rd c (S x) e s1 ∧
      ((e = .normal ∧ ∃ y, Sub s1 (S y) ∧ (S x).heap.length = (S y).heap.length ∧ inv y ∧ μ y < μ x ∧ fin y = fin x) ∨ (e ≠ .normal ∧ e = (fin x).1 ∧ Sub s1 (fin x).2))) :
    ∀ x, inv x → SimC P rd (.loop c) (S x) (fin x).1 (fin x).2 := by
  have key : ∀ m x, μ x = m → inv x → ∃ n, SimL P rd c n (S x) (fin x).1 (fin x).2 := by
    intro m
    induction m using Nat.strongRecOn with
    | _ m ih =>
      intro x hm hx
      obtain ⟨e, s1, h, hc⟩ := round x hx
      rcases hc with ⟨rfl, y, hs, hl, hy, hlt, hf⟩ | ⟨hne, rfl, hs⟩
      · obtain ⟨n, hn⟩ := ih (μ y) (hm ▸ hlt) y rfl hy
        rw [hf] at hn
        exact ⟨n + 1, (h.post hs (by omega)).step hn⟩
      · exact ⟨1, (h.post hs (hfin x hx)).leave hne⟩
  intro x hx
  obtain ⟨n, hn⟩ := key _ x rfl hx
  exact hn.loop
end Go.Eng
