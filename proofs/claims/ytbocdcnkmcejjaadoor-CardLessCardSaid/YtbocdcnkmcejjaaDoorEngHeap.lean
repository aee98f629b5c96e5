/- ENGINE, PART 3: how an abstract heap is kept, grown and written. -/
import Derived.Test.YtbocdcnkmcejjaaDoorEngMem
namespace Go.Eng
open Go

theorem cell_of_heap {W W' : World} {a : Addr} {v : Value} (h : W.cell? a = some v) (hW : ∀ o, W.heap[a.block]? = some o → W'.heap[a.block]? = some o) : W'.cell? a = some v := by
  unfold World.cell? at *
  cases hb : W.heap[a.block]? with
  | none => rw [hb] at h; cases h
  | some o => rw [hb] at h; rw [hW o hb]; exact h

theorem BlkOk.frame {E E' : Env} {n m : Nat} {W W' : World} {b : Nat} {blk : Blk} (hk : BlkOk E n W b blk) (hb : b < n) (hE : Agree n E E') (hm : n ≤ m)
    (hW : ∀ o, W.heap[E.blk b]? = some o → W'.heap[E.blk b]? = some o) : BlkOk E' m W' b blk := by
  have e1 := hE.blk b hb
  have e2 := hE.delta b hb
  cases blk with
  | dead => trivial
  | defs => unfold BlkOk at *; rw [e1]; exact hW _ hk
  | loopB st me tmps ps assign body d =>
    obtain ⟨hd, fn, vs, ⟨hv1, hv2⟩, hc⟩ := hk
    refine ⟨Nat.lt_of_lt_of_le hd hm, fn, vs, ⟨hv1, fun i v hi => ?_⟩, by rw [e1, hE.blk d hd]; exact hW _ hc⟩
    obtain ⟨x, hx, hr⟩ := hv2 i v hi
    exact ⟨x, hx, hr.mono hE hm⟩
  | ro row =>
    refine ⟨inSs_mono hm _ hk.1, fun i v hi => ?_⟩
    have hs : inS n v = true := by
      have := hk.1; rw [inSs_eq, List.all_eq_true] at this; exact this v (List.mem_of_getElem? hi)
    rw [e1, e2, conc_agree hE v hs]
    exact cell_of_heap (hk.2 i v hi) hW
  | glob g row =>
    obtain ⟨hg, hd, hs, hc⟩ := hk
    refine ⟨by rw [e1]; exact hg, by rw [e2]; exact hd, inSs_mono hm _ hs, fun i v hi => ?_⟩
    have hs : inS n v = true := by
      rw [inSs_eq, List.all_eq_true] at hs; exact hs v (List.mem_of_getElem? hi)
    rw [e1, e2, conc_agree hE v hs]
    exact cell_of_heap (hc i v hi) hW
  | rs nn sz row =>
    obtain ⟨hs, hz, hl, hle, hnil, hc⟩ := hk
    refine ⟨inSs_mono hm _ hs, hz, by rw [hE.len b hb]; exact hl, by rw [hE.len b hb, hE.cap b hb]; exact hle, fun h => hnil (by rw [← hE.isnil b hb]; exact h), fun h i v hi => ?_⟩
    have hs : inS n v = true := by
      rw [inSs_eq, List.all_eq_true] at hs; exact hs v (List.mem_of_getElem? hi)
    rw [e1, e2, conc_agree hE v hs]
    exact cell_of_heap (hc (by rw [← hE.isnil b hb]; exact h) i v hi) hW
  | own ty row =>
    obtain ⟨hd, hs, fz, hfz, hc⟩ := hk
    exact ⟨by rw [e2]; exact hd, inSs_mono hm _ hs, fz, hfz, by rw [e1, concs_agree hE _ hs]; exact hW _ hc⟩
  | grow nn ty sz row =>
    obtain ⟨hd, hs, hz, hl, hle, hnil, hc⟩ := hk
    refine ⟨by rw [e2]; exact hd, inSs_mono hm _ hs, hz, by rw [hE.len b hb]; exact hl, by rw [hE.len b hb, hE.cap b hb]; exact hle, fun h => hnil (by rw [← hE.isnil b hb]; exact h), fun h => ?_⟩
    obtain ⟨fz, spare, hfz, hsz, hc⟩ := hc (by rw [← hE.isnil b hb]; exact h)
    exact ⟨fz, spare, hfz, by rw [hE.cap b hb]; exact hsz, by rw [e1, concs_agree hE _ hs]; exact hW _ hc⟩

/-- What is not there says nothing of the memory. -/
theorem BlkOk.absent {E E' : Env} {n m : Nat} {W W' : World} {b : Nat} {blk : Blk} (hk : BlkOk E n W b blk) (hb : b < n) (hE : Agree n E E') (hm : n ≤ m) (hl : liveAt E b blk = false) : BlkOk E' m W' b blk := by
  cases blk with
  | dead => trivial
  | defs => simp [liveAt] at hl
  | loopB st me tmps ps assign body d => simp [liveAt] at hl
  | ro row =>
    simp only [liveAt, Bool.not_eq_eq_eq_not, Bool.not_false, List.isEmpty_iff] at hl
    refine ⟨inSs_mono hm _ hk.1, fun i v hi => ?_⟩
    rw [hl] at hi; simp at hi
  | glob g row =>
    obtain ⟨hg, hd, hs, hc⟩ := hk
    simp only [liveAt, Bool.not_eq_eq_eq_not, Bool.not_false, List.isEmpty_iff] at hl
    refine ⟨by rw [hE.blk b hb]; exact hg, by rw [hE.delta b hb]; exact hd, inSs_mono hm _ hs, fun i v hi => ?_⟩
    rw [hl] at hi; simp at hi
  | rs nn sz row =>
    obtain ⟨hs, hz, hle, hc1, hnil, hc⟩ := hk
    refine ⟨inSs_mono hm _ hs, hz, by rw [hE.len b hb]; exact hle, by rw [hE.len b hb, hE.cap b hb]; exact hc1, fun h => hnil (by rw [← hE.isnil b hb]; exact h), fun h i v hi => ?_⟩
    rw [hE.isnil b hb] at h
    simp only [liveAt, h, Bool.not_false, Bool.true_and, Bool.not_eq_eq_eq_not, List.isEmpty_iff] at hl
    rw [hl] at hi; simp at hi
  | own ty row => simp [liveAt] at hl
  | grow nn ty sz row =>
    obtain ⟨hd, hs, hz, hle, hc1, hnil, hc⟩ := hk
    simp only [liveAt, Bool.not_eq_eq_eq_not, Bool.not_false] at hl
    exact ⟨by rw [hE.delta b hb]; exact hd, inSs_mono hm _ hs, hz, by rw [hE.len b hb]; exact hle, by rw [hE.len b hb, hE.cap b hb]; exact hc1, fun _ => hnil hl, fun h => by rw [hE.isnil b hb, hl] at h; cases h⟩

theorem liveAt_agree {E E' : Env} {n b : Nat} (hE : Agree n E E') (hb : b < n) (blk : Blk) : liveAt E' b blk = liveAt E b blk := by
  cases blk <;> simp [liveAt, hE.isnil b hb]

theorem BlkOk.lt {E : Env} {n : Nat} {W : World} {b : Nat} {blk : Blk} (hk : BlkOk E n W b blk) (hl : liveAt E b blk = true) : E.blk b < W.heap.size := by
  cases blk with
  | dead => simp [liveAt] at hl
  | defs => exact (Array.getElem?_eq_some_iff.1 hk).1
  | loopB st me tmps ps assign body d =>
    obtain ⟨_, fn, vs, _, hc⟩ := hk
    exact (Array.getElem?_eq_some_iff.1 hc).1
  | ro row =>
    simp only [liveAt, Bool.not_eq_eq_eq_not, Bool.not_true, List.isEmpty_eq_false_iff] at hl
    cases hr : row.toVs with
    | nil => exact absurd hr hl
    | cons v r => exact World.block_lt_of_cell? _ _ (hk.2 0 v (by rw [hr]; rfl))
  | glob g row =>
    simp only [liveAt, Bool.not_eq_eq_eq_not, Bool.not_true, List.isEmpty_eq_false_iff] at hl
    cases hr : row.toVs with
    | nil => exact absurd hr hl
    | cons v r => exact World.block_lt_of_cell? _ _ (hk.2.2.2 0 v (by rw [hr]; rfl))
  | rs nn sz row =>
    obtain ⟨_, _, _, _, _, hc⟩ := hk
    simp only [liveAt, Bool.and_eq_true, Bool.not_eq_eq_eq_not, Bool.not_true, List.isEmpty_eq_false_iff] at hl
    cases hr : row.toVs with
    | nil => exact absurd hr hl.2
    | cons v r => exact World.block_lt_of_cell? _ _ (hc hl.1 0 v (by rw [hr]; rfl))
  | own ty row =>
    obtain ⟨_, _, fz, _, hc⟩ := hk
    exact (Array.getElem?_eq_some_iff.1 hc).1
  | grow nn ty sz row =>
    obtain ⟨_, _, _, _, _, _, hc⟩ := hk
    simp only [liveAt, Bool.not_eq_eq_eq_not, Bool.not_true] at hl
    obtain ⟨fz, spare, _, _, hc⟩ := hc hl
    exact (Array.getElem?_eq_some_iff.1 hc).1

theorem getElem?_lt {α : Type} {l : List α} {i : Nat} {x : α} (h : l[i]? = some x) : i < l.length := by
  rcases Nat.lt_or_ge i l.length with h' | h'
  · exact h'
  · rw [List.getElem?_eq_none h'] at h; cases h

/-- The memory may grow, and what is not ours may turn. -/
theorem Holds.keep {E E' : Env} {h : List Blk} {W W' : World} (hh : Holds E h W) (hE : Agree h.length E E') (hW : ∀ k, k < W.heap.size → W'.heap[k]? = W.heap[k]?) : Holds E' h W' := by
  refine ⟨fun b blk hb => ?_, fun b b' blk blk' hb hb' hm hl hl' he => ?_⟩
  · refine (hh.ok b blk hb).frame (getElem?_lt hb) hE (Nat.le_refl _) (fun o ho => ?_)
    rw [hW _ (Array.getElem?_eq_some_iff.1 ho).1]; exact ho
  · rw [liveAt_agree hE (getElem?_lt hb)] at hl
    rw [liveAt_agree hE (getElem?_lt hb')] at hl'
    rw [hE.blk _ (getElem?_lt hb), hE.blk _ (getElem?_lt hb')] at he
    exact hh.inj b b' blk blk' hb hb' hm hl hl' he

def Env.put (E : Env) (n k len cap : Nat) (nil : Bool) : Env :=
  { blk := fun b => if b = n then k else E.blk b, delta := fun b => if b = n then 0 else E.delta b, len := fun b => if b = n then len else E.len b,
    cap := fun b => if b = n then cap else E.cap b, isnil := fun b => if b = n then nil else E.isnil b, base := E.base }
theorem Agree.put (E : Env) (n k len cap : Nat) (nil : Bool) : Agree n E (E.put n k len cap nil) :=
  ⟨fun b hb => if_neg (by omega), fun b hb => if_neg (by omega), fun b hb => if_neg (by omega), fun b hb => if_neg (by omega), fun b hb => if_neg (by omega), fun b hb => rfl⟩

theorem getElem?_snoc {α : Type} {l : List α} {y : α} {i : Nat} {x : α} (h : (l ++ [y])[i]? = some x) : l[i]? = some x ∨ (i = l.length ∧ x = y) := by
  rcases Nat.lt_or_ge i l.length with h' | h'
  · rw [List.getElem?_append_left h'] at h; exact .inl h
  · rw [List.getElem?_append_right h'] at h
    have : i - l.length = 0 := by
      rcases Nat.lt_or_ge 0 (i - l.length) with h1 | h1
      · rw [List.getElem?_eq_none (by simp; omega)] at h; cases h
      · omega
    rw [this] at h
    simp only [List.getElem?_cons_zero, Option.some.injEq] at h
    exact .inr ⟨by omega, h.symm⟩

/-- A new block: what it says holds; it is new, or it is the block of one of ours that is given up. -/
theorem Holds.snoc {E' : Env} {h : List Blk} {W' : World} {blk : Blk} (hh : Holds E' h W') (hnew : BlkOk E' (h.length + 1) W' h.length blk)
    (hinj : ∀ b blk', h[b]? = some blk' → liveAt E' b blk' = true → liveAt E' h.length blk = true → (blk.mine = true ∨ blk'.mine = true) → E'.blk b ≠ E'.blk h.length) : Holds E' (h ++ [blk]) W' := by
  refine ⟨fun b x hb => ?_, fun b b' x x' hb hb' hm hl hl' he => ?_⟩
  · rcases getElem?_snoc hb with hb | ⟨rfl, rfl⟩
    · rw [List.length_append]
      exact (hh.ok b x hb).frame (getElem?_lt hb) (Agree.refl _ _) (by simp) (fun o ho => ho)
    · rw [List.length_append]; exact hnew
  · rcases getElem?_snoc hb with k1 | ⟨e1, e2⟩ <;> rcases getElem?_snoc hb' with k2 | ⟨e3, e4⟩
    · exact hh.inj b b' x x' k1 k2 hm hl hl' he
    · subst e3; subst e4; exact absurd he (hinj b x k1 hl hl' (.inr hm))
    · subst e1; subst e2; exact absurd he.symm (hinj b' x' k2 hl' hl (.inl hm))
    · rw [e1, e3]

theorem Mine.snoc {E : Env} {h : List Blk} {blk : Blk} {k : Nat} (hm : Mine E (h ++ [blk]) k) : Mine E h k ∨ E.blk h.length = k := by
  obtain ⟨b, x, hb, h1, h2, h3⟩ := hm
  rcases getElem?_snoc hb with hb | ⟨rfl, rfl⟩
  · exact .inl ⟨b, x, hb, h1, h2, h3⟩
  · exact .inr h3

theorem Mine.agree {E E' : Env} {h : List Blk} {k : Nat} (hE : Agree h.length E E') (hm : Mine E' h k) : Mine E h k := by
  obtain ⟨b, x, hb, h1, h2, h3⟩ := hm
  exact ⟨b, x, hb, h1, by rw [← liveAt_agree hE (getElem?_lt hb)]; exact h2, by rw [← hE.blk _ (getElem?_lt hb)]; exact h3⟩

/-- A block that is made. -/
theorem Holds.alloc {E : Env} {h : List Blk} {W : World} (hh : Holds E h W) (ty : TypeId) (l : List V) (hl : inSs h.length l = true) :
    Holds (E.put h.length W.heap.size 0 0 false) (h ++ [.own ty (.vs l)]) (W.alloc (.cells (concs E l).toArray ty)) ∧
    Trans E h W (E.put h.length W.heap.size 0 0 false) (h ++ [.own ty (.vs l)]) (W.alloc (.cells (concs E l).toArray ty)) := by
  have hE := Agree.put E h.length W.heap.size 0 0 false
  have hold : ∀ k, k < W.heap.size → (W.alloc (.cells (concs E l).toArray ty)).heap[k]? = W.heap[k]? := fun k hk => by
    show (W.heap.push _)[k]? = _
    rw [Array.getElem?_push, if_neg (by omega)]
  have e0 : (E.put h.length W.heap.size 0 0 false).blk h.length = W.heap.size := if_pos rfl
  have hk : Holds (E.put h.length W.heap.size 0 0 false) h (W.alloc (.cells (concs E l).toArray ty)) := hh.keep hE hold
  refine ⟨Holds.snoc hk ⟨if_pos rfl, inSs_mono (Nat.le_succ _) _ hl, (0, 0), fun o _ hx => Nat.not_lt_zero _ hx.2, ?_⟩ (fun b blk' hb hlv _ _ he => ?_), ⟨hE, by simp, fun k hm => ?_, fun k hk _ => hold k hk, by simp, rfl, rfl, rfl⟩⟩
  · rw [e0]
    simp only [Row.toVs]
    rw [concs_agree hE _ hl]
    show (W.heap.push _)[W.heap.size]? = _
    simp
  · rw [e0, hE.blk _ (getElem?_lt hb)] at he
    rw [liveAt_agree hE (getElem?_lt hb)] at hlv
    have := (hh.ok b blk' hb).lt hlv
    omega
  · rcases hm.snoc with h1 | h1
    · exact .inl (h1.agree hE)
    · rw [e0] at h1; exact .inr (by omega)

/-- A block of ours is written: the same cells, but for the row. -/
theorem Holds.write {E : Env} {h : List Blk} {W : World} (hh : Holds E h W) {b : Nat} {blk blk' : Blk} (hb : h[b]? = some blk) (hm : blk.mine = true) (hm' : blk'.mine = true) (hlv : liveAt E b blk' = liveAt E b blk) (hl : liveAt E b blk = true) {o : Obj}
    (hnew : BlkOk E h.length (World.putObj W (E.blk b) o) b blk') :
    Holds E (setB h b blk') (World.putObj W (E.blk b) o) ∧ Trans E h W E (setB h b blk') (World.putObj W (E.blk b) o) := by
  have hlt := getElem?_lt hb
  have cas : ∀ {b' x}, (setB h b blk')[b']? = some x → (b' = b ∧ x = blk') ∨ (b' ≠ b ∧ h[b']? = some x) := fun {b' x} hx => by
    rw [setB_eq] at hx
    by_cases e : b' = b
    · subst e; rw [List.getElem?_set_self hlt] at hx; injection hx with hx; exact .inl ⟨rfl, hx.symm⟩
    · rw [List.getElem?_set_ne (Ne.symm e)] at hx; exact .inr ⟨e, hx⟩
  have hlen : (setB h b blk').length = h.length := by rw [setB_eq]; simp
  refine ⟨⟨fun b' x hx => ?_, fun b1 b2 x1 x2 h1 h2 m1 l1 l2 he => ?_⟩, ⟨Agree.refl _ _, by rw [hlen]; exact Nat.le_refl _, fun k hk => .inl ?_, fun k hk hn => ?_, by simp, rfl, rfl, rfl⟩⟩
  · rw [hlen]
    rcases cas hx with ⟨rfl, rfl⟩ | ⟨hne, hx⟩
    · exact hnew
    · cases hlx : liveAt E b' x with
      | false => exact (hh.ok b' x hx).absent (getElem?_lt hx) (Agree.refl _ _) (Nat.le_refl _) hlx
      | true =>
        have hd : E.blk b ≠ E.blk b' := fun he => hne (hh.inj b b' blk x hb hx hm hl hlx he).symm
        exact (hh.ok b' x hx).frame (getElem?_lt hx) (Agree.refl _ _) (Nat.le_refl _) (fun o ho => by rw [putObj_get hd]; exact ho)
  · rcases cas h1 with ⟨e1, e2⟩ | ⟨n1, k1⟩ <;> rcases cas h2 with ⟨e3, e4⟩ | ⟨n2, k2⟩
    · rw [e1, e3]
    · subst e1; exact hh.inj _ _ _ _ hb k2 hm hl l2 he
    · subst e3; exact hh.inj _ _ _ _ k1 hb m1 l1 hl he
    · exact hh.inj _ _ _ _ k1 k2 m1 l1 l2 he
  · obtain ⟨b', x, hx, h1, h2, h3⟩ := hk
    rcases cas hx with ⟨rfl, rfl⟩ | ⟨_, hx⟩
    · exact ⟨b', blk, hb, hm, hl, h3⟩
    · exact ⟨b', x, hx, h1, h2, h3⟩
  · have hd : E.blk b ≠ k := fun he => hn ⟨b, blk, hb, hm, hl, he⟩
    exact putObj_get hd

/-- A block of ours is given up. -/
theorem Holds.kill {E : Env} {h : List Blk} {W : World} (hh : Holds E h W) (b : Nat) : Holds E (setB h b .dead) W ∧ Trans E h W E (setB h b .dead) W := by
  have hlen : (setB h b .dead).length = h.length := by rw [setB_eq]; simp
  have cas : ∀ {b' x}, (setB h b .dead)[b']? = some x → x = Blk.dead ∨ h[b']? = some x := fun {b' x} hx => by
    rw [setB_eq] at hx
    by_cases e : b' = b
    · subst e
      rcases Nat.lt_or_ge b' h.length with hlt | hge
      · rw [List.getElem?_set_self hlt] at hx; injection hx with hx; exact .inl hx.symm
      · rw [List.getElem?_eq_none (by simpa using hge)] at hx; cases hx
    · rw [List.getElem?_set_ne (Ne.symm e)] at hx; exact .inr hx
  refine ⟨⟨fun b' x hx => ?_, fun b1 b2 x1 x2 h1 h2 m1 l1 l2 he => ?_⟩, ⟨Agree.refl _ _, by rw [hlen]; exact Nat.le_refl _, fun k hk => .inl ?_, fun _ _ _ => rfl, Nat.le_refl _, rfl, rfl, rfl⟩⟩
  · rw [hlen]
    rcases cas hx with rfl | hx
    · trivial
    · exact hh.ok b' x hx
  · rcases cas h1 with e1 | k1
    · rw [e1] at m1; simp [Blk.mine] at m1
    · rcases cas h2 with e2 | k2
      · rw [e2] at l2; simp [liveAt] at l2
      · exact hh.inj _ _ _ _ k1 k2 m1 l1 l2 he
  · obtain ⟨b', x, hx, h1, h2, h3⟩ := hk
    rcases cas hx with rfl | hx
    · simp [Blk.mine] at h1
    · exact ⟨b', x, hx, h1, h2, h3⟩

end Go.Eng
