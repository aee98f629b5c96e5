/- ENGINE, PART 13b: a nil slice that a template takes for a slice of ours. -/
import Derived.Test.YtbocdcnkmcejjaaDoorEngTmpl
namespace Go.Eng
open Go

/-- From n on all blocks are nil slices. -/
def Env.gh (E : Env) (n : Nat) : Env :=
  ⟨E.blk, fun b => if b < n then E.delta b else 0, fun b => if b < n then E.len b else 0, fun b => if b < n then E.cap b else 0, fun b => if b < n then E.isnil b else true, fun b => if b < n then E.base b else none⟩
theorem Agree.gh (E : Env) (n : Nat) : Agree n E (E.gh n) :=
  ⟨fun _ _ => rfl, fun b hb => by simp [Env.gh, hb], fun b hb => by simp [Env.gh, hb], fun b hb => by simp [Env.gh, hb], fun b hb => by simp [Env.gh, hb], fun b hb => by simp [Env.gh, hb]⟩

/-- The empty slice of a template's block. -/
def emptyR : TR → Row
  | .vs _ => .vs []
  | .ints k => .ints k []
  | .strs => .strs []
theorem emptyR_len (r : TR) : (emptyR r).toVs = [] := by cases r <;> rfl
def ghB : TB → Option Blk
  | .grow false ty sz r => match Nat.blt 0 sz with
    | true => some (.grow false ty sz (emptyR r))
    | false => none
  | _ => none
def nthB : List TB → Nat → TB
  | [], _ => .dead
  | b :: _, 0 => b
  | _ :: r, n + 1 => nthB r n
inductive IsGh : Blk → Prop
  | mk (ty : TypeId) (sz : Nat) (row : Row) : row.toVs = [] → 0 < sz → IsGh (.grow false ty sz row)
theorem ghB_ok {t : TB} {b : Blk} (h : ghB t = some b) : IsGh b := by
  unfold ghB at h
  split at h
  · split at h
    · rename_i hz
      cases h
      exact .mk _ _ _ (emptyR_len _) (by simpa using hz)
    · cases h
  · cases h

mutual
def ghV (bl : List TB) (n : Nat) : TV → V → List Blk → V × List Blk
  | .gs b, v, h => match isNilV v with
    | true => match ghB (nthB bl b) with
      | some blk => (.gs (n + h.length), h ++ [blk])
      | none => (v, h)
    | false => (v, h)
  | .agg ts, .agg vs, h => (.agg (ghVs bl n ts vs h).1, (ghVs bl n ts vs h).2)
  | .tuple ts, .tuple vs, h => (.tuple (ghVs bl n ts vs h).1, (ghVs bl n ts vs h).2)
  | _, v, h => (v, h)
def ghVs (bl : List TB) (n : Nat) : List TV → List V → List Blk → List V × List Blk
  | t :: ts, v :: vs, h => ((ghV bl n t v h).1 :: (ghVs bl n ts vs (ghV bl n t v h).2).1, (ghVs bl n ts vs (ghV bl n t v h).2).2)
  | _, vs, h => (vs, h)
end
def ghS (bl : List TB) (n : Nat) : TS → List V → List Blk → List V × List Blk
  | none :: ts, v :: vs, h => (v :: (ghS bl n ts vs h).1, (ghS bl n ts vs h).2)
  | some t :: ts, v :: vs, h => ((ghV bl n t v h).1 :: (ghS bl n ts vs (ghV bl n t v h).2).1, (ghS bl n ts vs (ghV bl n t v h).2).2)
  | _, vs, h => (vs, h)

/-- What is put behind: all are empty. -/
def AllGh (h : List Blk) : Prop := ∀ b ∈ h, IsGh b
theorem AllGh.snoc {h : List Blk} {b : Blk} (hh : AllGh h) (hb : IsGh b) : AllGh (h ++ [b]) := by
  intro x hx
  rcases List.mem_append.1 hx with h1 | h1
  · exact hh x h1
  · rw [List.mem_singleton] at h1; subst h1; exact hb
theorem conc_gh (E : Env) {n b : Nat} (hb : n ≤ b) : conc (E.gh n) (.gs b) = .slice none 0 0 := by
  have : ¬ b < n := by omega
  simp [conc, Env.gh, this]
/-- A value, and the same one with nil slices taken for blocks from n on. -/
def SameV (n m : Nat) (v v' : V) : Prop := (v = .top → v' = .top) ∧ ∀ E, inS n v = true → inS m v' = true ∧ conc (E.gh n) v' = conc E v
theorem SameV.id {n m : Nat} (v : V) (hm : n ≤ m) : SameV n m v v := ⟨fun h => h, fun E h => ⟨inS_mono hm v h, conc_agree (Agree.gh E n) v h⟩⟩
theorem SameV.mono {n m m' : Nat} {v v' : V} (h : SameV n m v v') (hm : m ≤ m') : SameV n m' v v' := ⟨h.1, fun E hv => ⟨inS_mono hm _ (h.2 E hv).1, (h.2 E hv).2⟩⟩
def SameVs (n m : Nat) : List V → List V → Prop
  | [], [] => True
  | v :: l, v' :: l' => SameV n m v v' ∧ SameVs n m l l'
  | _, _ => False
theorem SameVs.id {n m : Nat} (hm : n ≤ m) : ∀ l : List V, SameVs n m l l
  | [] => trivial
  | v :: l => ⟨SameV.id v hm, SameVs.id hm l⟩
theorem SameVs.to {n m : Nat} : ∀ {l l' : List V}, SameVs n m l l' → ∀ E, inSs n l = true → inSs m l' = true ∧ concs (E.gh n) l' = concs E l
  | [], [], _, _, _ => ⟨rfl, rfl⟩
  | v :: l, v' :: l', h, E, hs => by
    simp only [inSs, Bool.and_eq_true] at hs
    obtain ⟨h1, h2⟩ := h.1.2 E hs.1
    obtain ⟨h3, h4⟩ := SameVs.to h.2 E hs.2
    exact ⟨by simp only [inSs, h1, h3, Bool.and_self], by simp only [concs, h2, h4]⟩
  | [], _ :: _, h, _, _ => h.elim
  | _ :: _, [], h, _, _ => h.elim

mutual
theorem ghV_ok (bl : List TB) (n : Nat) : ∀ (t : TV) (v : V) (h : List Blk), AllGh h → AllGh (ghV bl n t v h).2 ∧ h.length ≤ (ghV bl n t v h).2.length ∧ ∀ m, n + (ghV bl n t v h).2.length ≤ m → SameV n m v (ghV bl n t v h).1
  | .gs b, v, h, hh => by
    simp only [ghV]
    split
    · rename_i hn
      split
      · rename_i blk hb
        refine ⟨hh.snoc (ghB_ok hb), by simp, fun m hm => ?_⟩
        rw [isNilV_ok hn]
        refine ⟨fun h => (by cases h), fun E _ => ⟨?_, conc_gh E (by omega)⟩⟩
        simp only [List.length_append, List.length_cons, List.length_nil] at hm
        simp only [inS, Nat.blt_eq]
        omega
      · exact ⟨hh, Nat.le_refl _, fun m hm => SameV.id v (by simp only at hm; omega)⟩
    · exact ⟨hh, Nat.le_refl _, fun m hm => SameV.id v (by simp only at hm; omega)⟩
  | .agg ts, v, h, hh => by
    cases v
    case agg vs =>
      obtain ⟨h1, h2, h3⟩ := ghVs_ok bl n ts vs h hh
      refine ⟨by simpa only [ghV] using h1, by simpa only [ghV] using h2, fun m hm => ⟨fun h => (by cases h), fun E hs => ?_⟩⟩
      simp only [ghV] at hm ⊢
      simp only [inS] at hs
      obtain ⟨h4, h5⟩ := (h3 m hm).to E hs
      exact ⟨by simp only [inS, h4], by simp only [conc, h5]⟩
    all_goals exact ⟨by simpa only [ghV] using hh, by simp only [ghV]; exact Nat.le_refl _, fun m hm => by simp only [ghV] at hm ⊢; exact SameV.id _ (by omega)⟩
  | .tuple ts, v, h, hh => by
    cases v
    case tuple vs =>
      obtain ⟨h1, h2, h3⟩ := ghVs_ok bl n ts vs h hh
      refine ⟨by simpa only [ghV] using h1, by simpa only [ghV] using h2, fun m hm => ⟨fun h => (by cases h), fun E hs => ?_⟩⟩
      simp only [ghV] at hm ⊢
      simp only [inS] at hs
      obtain ⟨h4, h5⟩ := (h3 m hm).to E hs
      exact ⟨by simp only [inS, h4], by simp only [conc, h5]⟩
    all_goals exact ⟨by simpa only [ghV] using hh, by simp only [ghV]; exact Nat.le_refl _, fun m hm => by simp only [ghV] at hm ⊢; exact SameV.id _ (by omega)⟩
  | .int _, v, h, hh | .bool, v, h, hh | .str, v, h, hh | .nil, v, h, hh | .lit _ _, v, h, hh | .ptr _ _, v, h, hh | .glob _ _, v, h, hh | .view _ _, v, h, hh | .yield _, v, h, hh | .func _ _, v, h, hh =>
    ⟨by simpa only [ghV] using hh, by simp only [ghV]; exact Nat.le_refl _, fun m hm => by simp only [ghV] at hm ⊢; exact SameV.id _ (by omega)⟩
theorem ghVs_ok (bl : List TB) (n : Nat) : ∀ (ts : List TV) (vs : List V) (h : List Blk), AllGh h → AllGh (ghVs bl n ts vs h).2 ∧ h.length ≤ (ghVs bl n ts vs h).2.length ∧ ∀ m, n + (ghVs bl n ts vs h).2.length ≤ m → SameVs n m vs (ghVs bl n ts vs h).1
  | [], vs, h, hh => ⟨by simpa only [ghVs] using hh, by simp only [ghVs]; exact Nat.le_refl _, fun m hm => by simp only [ghVs] at hm ⊢; exact SameVs.id (by omega) _⟩
  | t :: ts, [], h, hh => ⟨by simpa only [ghVs] using hh, by simp only [ghVs]; exact Nat.le_refl _, fun m hm => by simp only [ghVs] at hm ⊢; exact SameVs.id (by omega) _⟩
  | t :: ts, v :: vs, h, hh => by
    obtain ⟨h1, h2, h3⟩ := ghV_ok bl n t v h hh
    obtain ⟨h4, h5, h6⟩ := ghVs_ok bl n ts vs _ h1
    simp only [ghVs]
    exact ⟨h4, Nat.le_trans h2 h5, fun m hm => ⟨h3 m (by omega), h6 m hm⟩⟩
end
theorem ghS_ok (bl : List TB) (n : Nat) : ∀ (ts : TS) (vs : List V) (h : List Blk), AllGh h → AllGh (ghS bl n ts vs h).2 ∧ h.length ≤ (ghS bl n ts vs h).2.length ∧ ∀ m, n + (ghS bl n ts vs h).2.length ≤ m → SameVs n m vs (ghS bl n ts vs h).1
  | [], vs, h, hh => ⟨by simpa only [ghS] using hh, by simp only [ghS]; exact Nat.le_refl _, fun m hm => by simp only [ghS] at hm ⊢; exact SameVs.id (by omega) _⟩
  | none :: ts, [], h, hh => ⟨by simpa only [ghS] using hh, by simp only [ghS]; exact Nat.le_refl _, fun m hm => by simp only [ghS] at hm ⊢; exact SameVs.id (by omega) _⟩
  | some t :: ts, [], h, hh => ⟨by simpa only [ghS] using hh, by simp only [ghS]; exact Nat.le_refl _, fun m hm => by simp only [ghS] at hm ⊢; exact SameVs.id (by omega) _⟩
  | none :: ts, v :: vs, h, hh => by
    obtain ⟨h4, h5, h6⟩ := ghS_ok bl n ts vs h hh
    simp only [ghS]
    exact ⟨h4, h5, fun m hm => ⟨SameV.id v (by omega), h6 m hm⟩⟩
  | some t :: ts, v :: vs, h, hh => by
    obtain ⟨h1, h2, h3⟩ := ghV_ok bl n t v h hh
    obtain ⟨h4, h5, h6⟩ := ghS_ok bl n ts vs _ h1
    simp only [ghS]
    exact ⟨h4, Nat.le_trans h2 h5, fun m hm => ⟨h3 m (by omega), h6 m hm⟩⟩

theorem SameVs.get {n m : Nat} : ∀ {l l' : List V}, SameVs n m l l' → l'.length = l.length ∧ ∀ (i : Nat) v', l'[i]? = some v' → ∃ v, l[i]? = some v ∧ SameV n m v v'
  | [], [], _ => ⟨rfl, fun i v' h => by simp at h⟩
  | v :: l, w :: l', h => by
    obtain ⟨h1, h2⟩ := SameVs.get h.2
    refine ⟨by simp [h1], fun i v' hi => ?_⟩
    cases i with
    | zero => simp at hi; subst hi; exact ⟨v, by simp, h.1⟩
    | succ i => simpa using h2 i v' (by simpa using hi)
  | [], _ :: _, h => h.elim
  | _ :: _, [], h => h.elim

/-- The state in which a template's nil slices are blocks. -/
def AS.ghost (T : Tm) (s : AS) : AS := match (ghS T.blks s.heap.length T.slots s.tmps []).2 with
  | [] => s
  | b :: r => ⟨(ghS T.blks s.heap.length T.slots s.tmps []).1, s.heap ++ b :: r, s.marks⟩

theorem gh_live {E : Env} {n b : Nat} {blk : Blk} (hg : IsGh blk) (hb : n ≤ b) : liveAt (E.gh n) b blk = false := by
  cases hg
  have : ¬ b < n := by omega
  simp [liveAt, Env.gh, this]
theorem gh_blk {E : Env} {n m b : Nat} {W : World} {blk : Blk} (hg : IsGh blk) (hb : n ≤ b) : BlkOk (E.gh n) m W b blk := by
  cases hg with
  | mk ty sz row h hz =>
    have hn : ¬ b < n := by omega
    have hl : row.len = 0 := by rw [Row.len_eq, h]; rfl
    refine ⟨by simp [Env.gh, hn], by rw [h]; rfl, hz, by simp [Env.gh, hn, hl], by simp [Env.gh, hn], fun _ => ⟨hl, rfl⟩, fun hx => ?_⟩
    simp [Env.gh, hn] at hx
theorem getElem?_app {α : Type} {l r : List α} {i : Nat} {x : α} (h : (l ++ r)[i]? = some x) : (i < l.length ∧ l[i]? = some x) ∨ (l.length ≤ i ∧ x ∈ r) := by
  rcases Nat.lt_or_ge i l.length with hl | hl
  · rw [List.getElem?_append_left hl] at h; exact .inl ⟨hl, h⟩
  · rw [List.getElem?_append_right hl] at h; exact .inr ⟨hl, List.mem_of_getElem? h⟩
theorem gh_holds {E : Env} {h g : List Blk} {W : World} (hh : Holds E h W) (hg : AllGh g) : Holds (E.gh h.length) (h ++ g) W := by
  refine ⟨fun b blk hb => ?_, fun b b' x x' hb hb' hm hl hl' he => ?_⟩
  · rcases getElem?_app hb with ⟨h1, h2⟩ | ⟨h1, h2⟩
    · exact (hh.ok b blk h2).frame h1 (Agree.gh E _) (by simp) (fun _ h => h)
    · exact gh_blk (hg _ h2) h1
  · rcases getElem?_app hb with ⟨h1, h2⟩ | ⟨h1, h2⟩
    · rcases getElem?_app hb' with ⟨h1', h2'⟩ | ⟨h1', h2'⟩
      · rw [liveAt_agree (Agree.gh E _) h1] at hl
        rw [liveAt_agree (Agree.gh E _) h1'] at hl'
        exact hh.inj b b' x x' h2 h2' hm hl hl' he
      · rw [gh_live (hg _ h2') h1'] at hl'; cases hl'
    · rw [gh_live (hg _ h2) h1] at hl; cases hl
theorem gh_mine {E : Env} {h g : List Blk} {k : Nat} (hg : AllGh g) (hm : Mine (E.gh h.length) (h ++ g) k) : Mine E h k := by
  obtain ⟨b, x, hb, h1, h2, h3⟩ := hm
  rcases getElem?_app hb with ⟨q1, q2⟩ | ⟨q1, q2⟩
  · rw [liveAt_agree (Agree.gh E _) q1] at h2
    exact ⟨b, x, q2, h1, h2, h3⟩
  · rw [gh_live (hg _ q2) q1] at h2; cases h2
theorem gh_mine' {E : Env} {h g : List Blk} {k : Nat} (hm : Mine E h k) : Mine (E.gh h.length) (h ++ g) k := by
  obtain ⟨b, x, hb, h1, h2, h3⟩ := hm
  have hlt := getElem?_lt hb
  exact ⟨b, x, by rw [List.getElem?_append_left hlt]; exact hb, h1, by rw [liveAt_agree (Agree.gh E _) hlt]; exact h2, h3⟩

theorem SimC.ghost {P : Program} {n0 : Nat} {rd : Option Nat} {c : Code} {s s' : AS} {e : XE} {T : Tm} (h : SimC P n0 rd c (s.ghost T) e s') : SimC P n0 rd c s e s' := by
  unfold AS.ghost at h
  obtain ⟨k1, k2, k3⟩ := ghS_ok T.blks s.heap.length T.slots s.tmps [] (fun _ hx => by cases hx)
  split at h
  · exact h
  · rename_i b r hbr
    intro ro E a W hst hro hn
    rw [hbr] at k1 k2 k3
    have k4 := k3 (s.heap ++ b :: r).length (by simp)
    obtain ⟨k5, k6⟩ := k4.get
    have hst' : StOk (E.gh s.heap.length) ⟨(ghS T.blks s.heap.length T.slots s.tmps []).1, s.heap ++ b :: r, s.marks⟩ a W := by
      refine ⟨by rw [k5]; exact hst.size, fun i v hi => ?_, ?_, fun x hx => ?_, gh_holds hst.heap k1⟩
      · obtain ⟨u, hu, hs⟩ := k6 i v hi
        obtain ⟨x, hx, hv⟩ := hst.slots i u hu
        refine ⟨x, hx, ?_⟩
        rcases hv with rfl | ⟨h1, h2⟩
        · exact .inl (hs.1 rfl)
        · obtain ⟨h3, h4⟩ := hs.2 E h1
          exact .inr ⟨h3, by rw [h2, h4]⟩
      · rw [marksOf_agree (Agree.gh E _) hst.scope]; exact hst.defers
      · have := hst.scope x hx; simp; omega
    refine wpIn_mono (h ro _ a W hst' (hro.agree ((Agree.gh E _).mono hn) (Nat.le_refl _)) (by simp; omega)) ?_
    rintro e' a' W' ⟨rfl, E', h1, h2⟩
    exact ⟨rfl, E', h1, ⟨((Agree.gh E _).mono hn).trans h2.agree (Nat.le_refl _), h2.len, fun k hk => (h2.mine k hk).imp (gh_mine k1) id, fun k hk hk' => h2.frame k hk (fun hm => hk' (gh_mine k1 hm)), h2.size, h2.os, h2.tape, h2.output⟩⟩
/-- The other way: a state in which nil slices are blocks says no more. -/
theorem SimC.ghost_post {P : Program} {n0 : Nat} {rd : Option Nat} {c : Code} {s s' : AS} {e : XE} {T : Tm} (h : SimC P n0 rd c s e s') : SimC P n0 rd c s e (s'.ghost T) := by
  unfold AS.ghost
  obtain ⟨k1, k2, k3⟩ := ghS_ok T.blks s'.heap.length T.slots s'.tmps [] (fun _ hx => by cases hx)
  split
  · exact h
  · rename_i b r hbr
    rw [hbr] at k1 k2 k3
    have k4 := k3 (s'.heap ++ b :: r).length (by simp)
    obtain ⟨k5, k6⟩ := k4.get
    intro ro E0 a0 W0 hst0 hro hn0
    refine wpIn_mono (h ro _ a0 W0 hst0 hro hn0) ?_
    rintro e' a W ⟨rfl, E, hst, h2⟩
    have hst' : StOk (E.gh s'.heap.length) ⟨(ghS T.blks s'.heap.length T.slots s'.tmps []).1, s'.heap ++ b :: r, s'.marks⟩ a W := by
      refine ⟨by rw [k5]; exact hst.size, fun i v hi => ?_, ?_, fun x hx => ?_, gh_holds hst.heap k1⟩
      · obtain ⟨u, hu, hs⟩ := k6 i v hi
        obtain ⟨x, hx, hv⟩ := hst.slots i u hu
        refine ⟨x, hx, ?_⟩
        rcases hv with rfl | ⟨h1, h2⟩
        · exact .inl (hs.1 rfl)
        · obtain ⟨h3, h4⟩ := hs.2 E h1
          exact .inr ⟨h3, by rw [h2, h4]⟩
      · rw [marksOf_agree (Agree.gh E _) hst.scope]; exact hst.defers
      · have := hst.scope x hx; simp; omega
    exact ⟨rfl, _, hst', ⟨h2.agree.trans ((Agree.gh E _).mono h2.len) (Nat.le_refl _), by simp only [List.length_append]; have := h2.len; omega, fun k hk => h2.mine k (gh_mine k1 hk), h2.frame, h2.size, h2.os, h2.tape, h2.output⟩⟩
end Go.Eng
