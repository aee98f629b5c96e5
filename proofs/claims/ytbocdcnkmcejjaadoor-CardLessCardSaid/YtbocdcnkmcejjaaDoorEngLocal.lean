/- ENGINE, PART 15: functions that read the slices they are handed and make new blocks: known by a heap of their own. -/
import Derived.Test.YtbocdcnkmcejjaaDoorEngLSum
namespace Go.Eng
open Go

mutual
/-- Names of blocks from a on become names from c on. -/
def shV (a c : Nat) : V → V
  | .ptr b off => .ptr (b - a + c) off
  | .view b l sz len => .view (b - a + c) l sz len
  | .aslice b off len cap => .aslice (b - a + c) off len cap
  | .gs b => .gs (b - a + c)
  | .yield b => .yield (b - a + c)
  | .func f l => .func f (shVs a c l)
  | .agg l => .agg (shVs a c l)
  | .tuple l => .tuple (shVs a c l)
  | v => v
def shVs (a c : Nat) : List V → List V
  | [] => []
  | v :: r => shV a c v :: shVs a c r
end
mutual
def fromV (a : Nat) : V → Bool
  | .ptr b _ => Nat.ble a b
  | .view b _ _ _ => Nat.ble a b
  | .aslice b _ _ _ => Nat.ble a b
  | .gs b => Nat.ble a b
  | .yield b => Nat.ble a b
  | .func _ l => fromVs a l
  | .agg l => fromVs a l
  | .tuple l => fromVs a l
  | _ => true
def fromVs (a : Nat) : List V → Bool
  | [] => true
  | v :: r => fromV a v && fromVs a r
end
/-- Two environments that agree behind a and behind c. -/
structure AgreeAt (a c n : Nat) (E E' : Env) : Prop where
  blk : ∀ j, j < n → E'.blk (c + j) = E.blk (a + j)
  delta : ∀ j, j < n → E'.delta (c + j) = E.delta (a + j)
  len : ∀ j, j < n → E'.len (c + j) = E.len (a + j)
  cap : ∀ j, j < n → E'.cap (c + j) = E.cap (a + j)
  isnil : ∀ j, j < n → E'.isnil (c + j) = E.isnil (a + j)
  base : ∀ j, j < n → E'.base (c + j) = E.base (a + j)
theorem at_eq {a c n b : Nat} {α : Type} {f g : Nat → α} (h : ∀ j, j < n → g (c + j) = f (a + j)) (h1 : a ≤ b) (h2 : b < a + n) : g (b - a + c) = f b := by
  have := h (b - a) (by omega)
  rw [show c + (b - a) = b - a + c by omega, show a + (b - a) = b by omega] at this
  exact this
mutual
theorem conc_sh {a c n : Nat} {E E' : Env} (h : AgreeAt a c n E E') : ∀ v, inS (a + n) v = true → fromV a v = true → conc E' (shV a c v) = conc E v ∧ inS (c + n) (shV a c v) = true
  | .bool _, _, _ | .int _ _, _, _ | .str _, _, _ | .flat _, _, _ | .glob _ _, _, _ => by simp [conc, inS, shV]
  | .ptr b off, hs, hf => by
    simp [inS] at hs; simp [fromV] at hf
    simp only [shV, conc, inS, at_eq h.blk hf hs, at_eq h.delta hf hs]
    simp; omega
  | .view b l sz len, hs, hf => by
    simp [inS] at hs; simp [fromV] at hf
    simp only [shV, conc, inS, at_eq h.blk hf hs, at_eq h.delta hf hs, at_eq h.cap hf hs, at_eq h.isnil hf hs, at_eq h.base hf hs]
    simp; omega
  | .aslice b off len cap, hs, hf => by
    simp [inS] at hs; simp [fromV] at hf
    simp only [shV, conc, inS, at_eq h.blk hf hs, at_eq h.delta hf hs]
    simp; omega
  | .gs b, hs, hf => by
    simp [inS] at hs; simp [fromV] at hf
    simp only [shV, conc, inS, at_eq h.blk hf hs, at_eq h.delta hf hs, at_eq h.len hf hs, at_eq h.cap hf hs, at_eq h.isnil hf hs, at_eq h.base hf hs]
    simp; omega
  | .yield b, hs, hf => by
    simp [inS] at hs; simp [fromV] at hf
    simp only [shV, conc, inS, at_eq h.blk hf hs]
    simp; omega
  | .func f l, hs, hf => by
    obtain ⟨h1, h2⟩ := concs_sh h l (by simpa [inS] using hs) (by simpa [fromV] using hf)
    exact ⟨by simp only [shV, conc, h1], by simpa [shV, inS] using h2⟩
  | .agg l, hs, hf => by
    obtain ⟨h1, h2⟩ := concs_sh h l (by simpa [inS] using hs) (by simpa [fromV] using hf)
    exact ⟨by simp only [shV, conc, h1], by simpa [shV, inS] using h2⟩
  | .tuple l, hs, hf => by
    obtain ⟨h1, h2⟩ := concs_sh h l (by simpa [inS] using hs) (by simpa [fromV] using hf)
    exact ⟨by simp only [shV, conc, h1], by simpa [shV, inS] using h2⟩
  | .top, hs, _ => by simp [inS] at hs
theorem concs_sh {a c n : Nat} {E E' : Env} (h : AgreeAt a c n E E') : ∀ l, inSs (a + n) l = true → fromVs a l = true → concs E' (shVs a c l) = concs E l ∧ inSs (c + n) (shVs a c l) = true
  | [], _, _ => ⟨rfl, rfl⟩
  | v :: r, hs, hf => by
    simp only [inSs, fromVs, Bool.and_eq_true] at hs hf
    obtain ⟨h1, h2⟩ := conc_sh h v hs.1 hf.1
    obtain ⟨h3, h4⟩ := concs_sh h r hs.2 hf.2
    exact ⟨by simp only [shVs, concs, h1, h3], by simp only [shVs, inSs, h2, h4]; rfl⟩
end

def shR (a c : Nat) : Row → Row
  | .vs l => .vs (shVs a c l)
  | r => r
def fromR (a : Nat) : Row → Bool
  | .vs l => fromVs a l
  | _ => true
theorem shR_vs {a c n : Nat} {E E' : Env} (h : AgreeAt a c n E E') {r : Row} (hs : inSs (a + n) r.toVs = true) (hf : fromR a r = true) :
    concs E' (shR a c r).toVs = concs E r.toVs ∧ inSs (c + n) (shR a c r).toVs = true ∧ (shR a c r).len = r.len := by
  cases r with
  | vs l =>
    obtain ⟨h1, h2⟩ := concs_sh h l hs hf
    refine ⟨h1, h2, ?_⟩
    have := congrArg List.length h1
    simpa [concs_eq, shR, Row.len] using this
  | ints k l =>
    refine ⟨?_, ?_, rfl⟩
    · simp only [shR, Row.toVs, concs_eq, List.map_map]; rfl
    · exact rowIn_ok (n := c + n) (row := .ints k l) rfl
  | strs l =>
    refine ⟨?_, ?_, rfl⟩
    · simp only [shR, Row.toVs, concs_eq, List.map_map]; rfl
    · exact rowIn_ok (n := c + n) (row := .strs l) rfl
def shB (a c : Nat) : Blk → Blk
  | .own ty r => .own ty (shR a c r)
  | .grow nn ty sz r => .grow nn ty sz (shR a c r)
  | _ => .dead
def freshB (a : Nat) : Blk → Bool
  | .dead => true
  | .own _ r => fromR a r
  | .grow _ _ _ r => fromR a r
  | _ => false
def shBs (a c : Nat) : List Blk → List Blk
  | [] => []
  | b :: r => shB a c b :: shBs a c r
def freshBs (a : Nat) : List Blk → Bool
  | [] => true
  | b :: r => freshB a b && freshBs a r
theorem shBs_eq (a c : Nat) (l : List Blk) : shBs a c l = l.map (shB a c) := by
  induction l with
  | nil => rfl
  | cons b r ih => simp [shBs, ih]
theorem freshBs_get {a : Nat} : ∀ {l : List Blk} {i : Nat} {b : Blk}, freshBs a l = true → l[i]? = some b → freshB a b = true
  | [], i, b, _, h => by simp at h
  | u :: r, 0, b, hs, h => by
    simp only [freshBs, Bool.and_eq_true] at hs
    simp only [List.getElem?_cons_zero, Option.some.injEq] at h
    subst h; exact hs.1
  | u :: r, i + 1, b, hs, h => by
    simp only [freshBs, Bool.and_eq_true] at hs
    simp only [List.getElem?_cons_succ] at h
    exact freshBs_get hs.2 h

theorem BlkOk.sh {a c n j : Nat} {E E' : Env} {W : World} {blk : Blk} (h : AgreeAt a c n E E') (hj : j < n) (hf : freshB a blk = true) (hk : BlkOk E (a + n) W (a + j) blk) : BlkOk E' (c + n) W (c + j) (shB a c blk) := by
  cases blk with
  | dead => trivial
  | own ty r =>
    obtain ⟨h1, h2, fz, h3, h4⟩ := hk
    obtain ⟨q1, q2, q3⟩ := shR_vs h h2 hf
    exact ⟨by rw [h.delta j hj]; exact h1, q2, fz, by rw [q3]; exact h3, by rw [h.blk j hj, q1]; exact h4⟩
  | grow nn ty sz r =>
    obtain ⟨h1, h2, h3, h4, h5, h6, h7⟩ := hk
    obtain ⟨q1, q2, q3⟩ := shR_vs h h2 hf
    refine ⟨by rw [h.delta j hj]; exact h1, q2, h3, by rw [h.len j hj, q3]; exact h4, by rw [h.len j hj, h.cap j hj]; exact h5, fun hn => by rw [q3]; exact h6 (by rw [← h.isnil j hj]; exact hn), fun hn => ?_⟩
    obtain ⟨fz, spare, k1, k2, k3⟩ := h7 (by rw [← h.isnil j hj]; exact hn)
    exact ⟨fz, spare, by rw [q3]; exact k1, by rw [q3, h.cap j hj]; exact k2, by rw [h.blk j hj, q1]; exact k3⟩
  | _ => simp [freshB] at hf
theorem live_sh {a c n j : Nat} {E E' : Env} {blk : Blk} (h : AgreeAt a c n E E') (hj : j < n) (hf : freshB a blk = true) (hl : liveAt E' (c + j) (shB a c blk) = true) : liveAt E (a + j) blk = true ∧ blk.mine = true := by
  cases blk with
  | dead => simp [shB, liveAt] at hl
  | own ty r => exact ⟨rfl, rfl⟩
  | grow nn ty sz r =>
    simp only [shB, liveAt, h.isnil j hj] at hl
    exact ⟨by simpa [liveAt] using hl, rfl⟩
  | _ => simp [freshB] at hf

def Env.join (E E1 : Env) (a c : Nat) : Env :=
  { blk := fun b => if b < c then E.blk b else E1.blk (b - c + a), delta := fun b => if b < c then E.delta b else E1.delta (b - c + a), len := fun b => if b < c then E.len b else E1.len (b - c + a),
    cap := fun b => if b < c then E.cap b else E1.cap (b - c + a), isnil := fun b => if b < c then E.isnil b else E1.isnil (b - c + a), base := fun b => if b < c then E.base b else E1.base (b - c + a) }
theorem Agree.join (E E1 : Env) (a c : Nat) : Agree c E (E.join E1 a c) :=
  ⟨fun _ hb => if_pos hb, fun _ hb => if_pos hb, fun _ hb => if_pos hb, fun _ hb => if_pos hb, fun _ hb => if_pos hb, fun _ hb => if_pos hb⟩
theorem AgreeAt.join (E E1 : Env) (a c n : Nat) : AgreeAt a c n E1 (E.join E1 a c) := by
  have e : ∀ j, c + j - c + a = a + j := fun j => by omega
  refine ⟨fun j _ => ?_, fun j _ => ?_, fun j _ => ?_, fun j _ => ?_, fun j _ => ?_, fun j _ => ?_⟩ <;> (simp only [Env.join]; rw [if_neg (by omega), e])

/-- What a call does that has run over a heap of its own, in the caller's heap. -/
theorem fresh_holds {E E0 E1 : Env} {H h nb : List Blk} {W W' : World} (hh : Holds E H W) (h1 : Holds E1 (h ++ nb) W') (t : Trans E0 h W E1 (h ++ nb) W') (hro : ∀ (b : Nat) blk, h[b]? = some blk → blk.mine = false) (hf : freshBs h.length nb = true) :
    Holds (E.join E1 h.length H.length) (H ++ shBs h.length H.length nb) W' ∧ Trans E H W (E.join E1 h.length H.length) (H ++ shBs h.length H.length nb) W' := by
  have hJ := Agree.join E E1 h.length H.length
  have hA := AgreeAt.join E E1 h.length H.length nb.length
  have hnm : ∀ k, ¬ Mine E0 h k := fun k ⟨b, blk, hb, hm, _⟩ => by rw [hro b blk hb] at hm; cases hm
  have hW : ∀ k, k < W.heap.size → W'.heap[k]? = W.heap[k]? := fun k hk => t.frame k hk (hnm k)
  have hk := hh.keep hJ hW
  have cas : ∀ {b : Nat} {x : Blk}, (H ++ shBs h.length H.length nb)[b]? = some x → H[b]? = some x ∨ ∃ j y, b = H.length + j ∧ nb[j]? = some y ∧ x = shB h.length H.length y ∧ j < nb.length := fun {b x} hb => by
    rcases Nat.lt_or_ge b H.length with hlt | hge
    · rw [List.getElem?_append_left hlt] at hb; exact .inl hb
    · rw [List.getElem?_append_right hge, shBs_eq, List.getElem?_map] at hb
      cases hy : nb[b - H.length]? with
      | none => rw [hy] at hb; cases hb
      | some y =>
        rw [hy] at hb
        exact .inr ⟨b - H.length, y, by omega, hy, by simpa using hb.symm, getElem?_lt hy⟩
  have loc : ∀ {j : Nat} {y : Blk}, nb[j]? = some y → (h ++ nb)[h.length + j]? = some y := fun {j y} hy => by
    rw [List.getElem?_append_right (by omega), show h.length + j - h.length = j by omega]; exact hy
  have hlen : (H ++ shBs h.length H.length nb).length = H.length + nb.length := by rw [List.length_append, shBs_eq, List.length_map]
  have hlen1 : (h ++ nb).length = h.length + nb.length := List.length_append
  have far : ∀ {j : Nat} {y : Blk}, nb[j]? = some y → liveAt (E.join E1 h.length H.length) (H.length + j) (shB h.length H.length y) = true →
      W.heap.size ≤ (E.join E1 h.length H.length).blk (H.length + j) ∧ liveAt E1 (h.length + j) y = true ∧ y.mine = true := fun {j y} hy hl => by
    have hj := getElem?_lt hy
    obtain ⟨l1, l2⟩ := live_sh hA hj (freshBs_get hf hy) hl
    rw [hA.blk j hj]
    rcases t.mine _ ⟨h.length + j, y, loc hy, l2, l1, rfl⟩ with h2 | h2
    · exact absurd h2 (hnm _)
    · exact ⟨h2, l1, l2⟩
  refine ⟨⟨fun b x hb => ?_, fun b b' x x' hb hb' hm hl hl' he => ?_⟩, ⟨hJ, by rw [hlen]; omega, fun k hm => ?_, fun k hk _ => hW k hk, t.size, t.os, t.tape, t.output⟩⟩
  · rw [hlen]
    rcases cas hb with hb | ⟨j, y, rfl, hy, rfl, hj⟩
    · exact (hk.ok b x hb).frame (getElem?_lt hb) (Agree.refl _ _) (by omega) (fun o ho => ho)
    · have := h1.ok _ y (loc hy)
      rw [hlen1] at this
      exact this.sh hA hj (freshBs_get hf hy)
  · rcases cas hb with q | ⟨j, y, rfl, hy, rfl, hj⟩ <;> rcases cas hb' with q' | ⟨j', y', rfl, hy', rfl, hj'⟩
    · exact hk.inj b b' x x' q q' hm hl hl' he
    · exfalso
      have h2 := (far hy' hl').1
      rw [hJ.blk b (getElem?_lt q)] at he
      rw [liveAt_agree hJ (getElem?_lt q)] at hl
      have := (hh.ok b x q).lt hl
      omega
    · exfalso
      have h2 := (far hy hl).1
      rw [hJ.blk b' (getElem?_lt q')] at he
      rw [liveAt_agree hJ (getElem?_lt q')] at hl'
      have := (hh.ok b' x' q').lt hl'
      omega
    · obtain ⟨_, l1, l2⟩ := far hy hl
      obtain ⟨_, l1', l2'⟩ := far hy' hl'
      rw [hA.blk j hj, hA.blk j' hj'] at he
      have := h1.inj _ _ y y' (loc hy) (loc hy') l2 l1 l1' he
      omega
  · obtain ⟨b, x, hb, h2, h3, h4⟩ := hm
    rcases cas hb with q | ⟨j, y, rfl, hy, rfl, hj⟩
    · exact .inl (Mine.agree hJ ⟨b, x, q, h2, h3, h4⟩)
    · rw [← h4]; exact .inr (far hy h3).1
end Go.Eng
