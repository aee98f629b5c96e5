/- ENGINE, PART 13: families of states; loops that are known as a whole. -/
import Derived.Test.YtbocdcnkmcejjaaDoorEngIdent
namespace Go.Eng
open Go

/-- What a state of a family is made of. -/
inductive PV where
  | i (n : Int)
  | b (b : Bool)
  | n (n : Nat)
  | s (s : ByteArray)
  | l (l : List Int)
  | ss (l : List ByteArray)

inductive TV where
  | int (k : IntKind)
  | bool
  | str
  | nil
  | lit (k : IntKind) (n : Int)
  | ptr (b off : Nat)
  | glob (g off : Nat)
  | gs (b : Nat)
  | view (b sz : Nat)
  | yield (b : Nat)
  | func (f : FuncId) (caps : List TV)
  | agg (l : List TV)
  | tuple (l : List TV)

def headP : List PV → PV
  | [] => .n 0
  | p :: _ => p
def tailP : List PV → List PV
  | [] => []
  | _ :: r => r
def PV.toI : PV → Int | .i z => z | _ => 0
def PV.toB : PV → Bool | .b z => z | _ => false
def PV.toN : PV → Nat | .n z => z | _ => 0
def PV.toS : PV → ByteArray | .s z => z | _ => ⟨#[]⟩
def PV.toL : PV → List Int | .l z => z | _ => []
def PV.toSs : PV → List ByteArray | .ss z => z | _ => []

mutual
/-- How many parts a template takes. -/
def takesV : TV → Nat
  | .int _ | .bool | .str => 1
  | .view _ _ => 2
  | .func _ l => takesVs l
  | .agg l => takesVs l
  | .tuple l => takesVs l
  | _ => 0
def takesVs : List TV → Nat
  | [] => 0
  | t :: r => takesV t + takesVs r
end
def dropP : Nat → List PV → List PV
  | 0, l => l
  | n + 1, l => dropP n (tailP l)
mutual
def instV : TV → List PV → V
  | .int k, p => .int k (headP p).toI
  | .bool, p => .bool (headP p).toB
  | .str, p => .str (headP p).toS
  | .nil, _ => .flat (.slice none 0 0)
  | .lit k n, _ => .int k n
  | .ptr b off, _ => .ptr b off
  | .glob g off, _ => .glob g off
  | .gs b, _ => .gs b
  | .view b sz, p => .view b (headP p).toN sz (headP (tailP p)).toN
  | .yield b, _ => .yield b
  | .func f l, p => .func f (instVs l p)
  | .agg l, p => .agg (instVs l p)
  | .tuple l, p => .tuple (instVs l p)
def instVs : List TV → List PV → List V
  | [], _ => []
  | t :: r, p => instV t p :: instVs r (dropP (takesV t) p)
end
def consP (a : List PV) : Option (List PV) → Option (List PV)
  | some b => some (a ++ b)
  | none => none
def litEq (k : IntKind) (n : Int) (k' : IntKind) (n' : Int) : Bool := decide (k = k') && decide (n = n')
def isNilV : V → Bool
  | .flat (.slice none 0 0) => true
  | _ => false
theorem isNilV_ok {v : V} (h : isNilV v = true) : v = .flat (.slice none 0 0) := by
  unfold isNilV at h
  split at h
  · rfl
  · cases h
mutual
def matchV : TV → V → Option (List PV)
  | .int k, .int k' n => match decide (k = k') with | true => some [.i n] | false => none
  | .bool, .bool b => some [.b b]
  | .str, .str s => some [.s s]
  | .nil, v => match isNilV v with | true => some [] | false => none
  | .lit k n, .int k' n' => match litEq k n k' n' with | true => some [] | false => none
  | .ptr b off, .ptr b' off' => match Nat.beq b b' && Nat.beq off off' with | true => some [] | false => none
  | .glob b off, .glob b' off' => match Nat.beq b b' && Nat.beq off off' with | true => some [] | false => none
  | .gs b, .gs b' => match Nat.beq b b' with | true => some [] | false => none
  | .view b sz, .view b' l sz' len => match Nat.beq b b' && Nat.beq sz sz' with | true => some [.n l, .n len] | false => none
  | .yield b, .yield b' => match Nat.beq b b' with | true => some [] | false => none
  | .func f l, .func f' l' => match Nat.beq f f' with | true => matchVs l l' | false => none
  | .agg l, .agg l' => matchVs l l'
  | .tuple l, .tuple l' => matchVs l l'
  | _, _ => none
def matchVs : List TV → List V → Option (List PV)
  | [], [] => some []
  | t :: r, v :: q => match matchV t v with
    | some a => consP a (matchVs r q)
    | none => none
  | _, _ => none
end
theorem dropP_append (a b : List PV) : dropP a.length (a ++ b) = b := by
  induction a with
  | nil => rfl
  | cons x r ih => exact ih
mutual
theorem matchV_ok : ∀ {t : TV} {v : V} {ps : List PV}, matchV t v = some ps → ps.length = takesV t ∧ ∀ r, instV t (ps ++ r) = v
  | .int k, v, ps, h => by
    cases v <;> simp only [matchV] at h <;> try cases h
    split at h
    · rename_i hk; simp only [decide_eq_true_eq] at hk; cases h; subst hk; exact ⟨rfl, fun r => rfl⟩
    · cases h
  | .bool, v, ps, h => by cases v <;> simp only [matchV] at h <;> cases h; exact ⟨rfl, fun r => rfl⟩
  | .str, v, ps, h => by cases v <;> simp only [matchV] at h <;> cases h; exact ⟨rfl, fun r => rfl⟩
  | .nil, v, ps, h => by
    simp only [matchV] at h
    split at h
    · rename_i hk; rw [isNilV_ok hk]; cases h; exact ⟨rfl, fun r => rfl⟩
    · cases h
  | .lit k n, v, ps, h => by
    cases v <;> simp only [matchV] at h <;> try cases h
    split at h
    · rename_i hk
      simp only [litEq, Bool.and_eq_true, decide_eq_true_eq] at hk
      obtain ⟨rfl, rfl⟩ := hk
      cases h; exact ⟨rfl, fun r => rfl⟩
    · cases h
  | .ptr b off, v, ps, h => by
    cases v <;> simp only [matchV] at h <;> try cases h
    split at h
    · rename_i hk
      simp only [Bool.and_eq_true] at hk
      have e1 := Nat.eq_of_beq_eq_true hk.1
      have e2 := Nat.eq_of_beq_eq_true hk.2
      subst e1; subst e2; cases h; exact ⟨rfl, fun r => rfl⟩
    · cases h
  | .glob b off, v, ps, h => by
    cases v <;> simp only [matchV] at h <;> try cases h
    split at h
    · rename_i hk
      simp only [Bool.and_eq_true] at hk
      have e1 := Nat.eq_of_beq_eq_true hk.1
      have e2 := Nat.eq_of_beq_eq_true hk.2
      subst e1; subst e2; cases h; exact ⟨rfl, fun r => rfl⟩
    · cases h
  | .gs b, v, ps, h => by
    cases v <;> simp only [matchV] at h <;> try cases h
    split at h
    · rename_i hk
      have e1 := Nat.eq_of_beq_eq_true hk
      subst e1; cases h; exact ⟨rfl, fun r => rfl⟩
    · cases h
  | .view b sz, v, ps, h => by
    cases v <;> simp only [matchV] at h <;> try cases h
    split at h
    · rename_i hk
      simp only [Bool.and_eq_true] at hk
      have e1 := Nat.eq_of_beq_eq_true hk.1
      have e2 := Nat.eq_of_beq_eq_true hk.2
      subst e1; subst e2; cases h; exact ⟨rfl, fun r => rfl⟩
    · cases h
  | .yield b, v, ps, h => by
    cases v <;> simp only [matchV] at h <;> try cases h
    split at h
    · rename_i hk
      have e1 := Nat.eq_of_beq_eq_true hk
      subst e1; cases h; exact ⟨rfl, fun r => rfl⟩
    · cases h
  | .func f l, v, ps, h => by
    cases v <;> simp only [matchV] at h <;> try cases h
    split at h
    · rename_i hk
      have e1 := Nat.eq_of_beq_eq_true hk
      subst e1
      obtain ⟨h1, h2⟩ := matchVs_ok h
      exact ⟨h1, fun r => by simp only [instV]; rw [h2]⟩
    · cases h
  | .agg l, v, ps, h => by
    cases v <;> simp only [matchV] at h <;> try cases h
    obtain ⟨h1, h2⟩ := matchVs_ok h
    exact ⟨h1, fun r => by simp only [instV]; rw [h2]⟩
  | .tuple l, v, ps, h => by
    cases v <;> simp only [matchV] at h <;> try cases h
    obtain ⟨h1, h2⟩ := matchVs_ok h
    exact ⟨h1, fun r => by simp only [instV]; rw [h2]⟩
theorem matchVs_ok : ∀ {t : List TV} {v : List V} {ps : List PV}, matchVs t v = some ps → ps.length = takesVs t ∧ ∀ r, instVs t (ps ++ r) = v
  | [], [], ps, h => by simp only [matchVs] at h; cases h; exact ⟨rfl, fun r => rfl⟩
  | [], _ :: _, ps, h => by simp only [matchVs] at h; cases h
  | _ :: _, [], ps, h => by simp only [matchVs] at h; cases h
  | t :: r, v :: q, ps, h => by
    simp only [matchVs] at h
    split at h
    · rename_i a ha
      obtain ⟨h1, h2⟩ := matchV_ok ha
      cases hb : matchVs r q with
      | none => rw [hb] at h; cases h
      | some b =>
        rw [hb] at h
        simp only [consP] at h
        cases h
        obtain ⟨h3, h4⟩ := matchVs_ok hb
        refine ⟨by simp [takesVs, h1, h3], fun r' => ?_⟩
        simp only [instVs, List.append_assoc]
        rw [h2, ← h1, dropP_append, h4]
    · cases h
end

mutual
def scopeV (n : Nat) : TV → Bool
  | .ptr b _ => Nat.blt b n
  | .gs b => Nat.blt b n
  | .view b _ => Nat.blt b n
  | .yield b => Nat.blt b n
  | .func _ l => scopeVs n l
  | .agg l => scopeVs n l
  | .tuple l => scopeVs n l
  | _ => true
def scopeVs (n : Nat) : List TV → Bool
  | [] => true
  | t :: r => scopeV n t && scopeVs n r
end
mutual
theorem scopeV_ok {n : Nat} : ∀ {t : TV} {p : List PV}, scopeV n t = true → inS n (instV t p) = true
  | .int _, _, _ | .bool, _, _ | .str, _, _ | .nil, _, _ | .lit _ _, _, _ | .glob _ _, _, _ => by simp [instV, inS]
  | .ptr b _, _, h => by simpa [instV, inS, scopeV] using h
  | .gs b, _, h => by simpa [instV, inS, scopeV] using h
  | .view b _, _, h => by simpa [instV, inS, scopeV] using h
  | .yield b, _, h => by simpa [instV, inS, scopeV] using h
  | .func _ l, _, h => by simp only [instV, inS]; exact scopeVs_ok (by simpa [scopeV] using h)
  | .agg l, _, h => by simp only [instV, inS]; exact scopeVs_ok (by simpa [scopeV] using h)
  | .tuple l, _, h => by simp only [instV, inS]; exact scopeVs_ok (by simpa [scopeV] using h)
theorem scopeVs_ok {n : Nat} : ∀ {t : List TV} {p : List PV}, scopeVs n t = true → inSs n (instVs t p) = true
  | [], _, _ => rfl
  | t :: r, _, h => by
    simp only [scopeVs, Bool.and_eq_true] at h
    simp only [instVs, inSs, Bool.and_eq_true]
    exact ⟨scopeV_ok h.1, scopeVs_ok h.2⟩
end

/-! ### rows, blocks, states -/
inductive TR where
  | vs (l : List TV)
  | ints (k : IntKind)
  | strs
def takesR : TR → Nat
  | .vs l => takesVs l
  | _ => 1
def instR : TR → List PV → Row
  | .vs l, p => .vs (instVs l p)
  | .ints k, p => .ints k (headP p).toL
  | .strs, p => .strs (headP p).toSs
def scopeR (n : Nat) : TR → Bool
  | .vs l => scopeVs n l
  | _ => true
theorem scopeR_ok {n : Nat} {t : TR} {p : List PV} (h : scopeR n t = true) : rowIn n (instR t p) = true := by
  cases t with
  | vs l => exact scopeVs_ok h
  | _ => rfl
def matchR : TR → Row → Option (List PV)
  | .vs l, .vs l' => matchVs l l'
  | .ints k, .ints k' l => match decide (k = k') with | true => some [.l l] | false => none
  | .strs, .strs l => some [.ss l]
  | _, _ => none
theorem matchR_ok {t : TR} {v : Row} {ps : List PV} (h : matchR t v = some ps) : ps.length = takesR t ∧ ∀ r, instR t (ps ++ r) = v := by
  cases t with
  | vs l =>
    cases v <;> simp only [matchR] at h <;> try cases h
    obtain ⟨h1, h2⟩ := matchVs_ok h
    exact ⟨h1, fun r => by simp only [instR]; rw [h2]⟩
  | ints k =>
    cases v <;> simp only [matchR] at h <;> try cases h
    split at h
    · rename_i hk; simp only [decide_eq_true_eq] at hk; subst hk; cases h; exact ⟨rfl, fun r => rfl⟩
    · cases h
  | strs => cases v <;> simp only [matchR] at h <;> cases h; exact ⟨rfl, fun r => rfl⟩

abbrev TS := List (Option TV)
def takesS : TS → Nat
  | [] => 0
  | none :: r => takesS r
  | some t :: r => takesV t + takesS r
def instS : TS → List PV → List V
  | [], _ => []
  | none :: r, p => .top :: instS r p
  | some t :: r, p => instV t p :: instS r (dropP (takesV t) p)
def matchS : TS → List V → Option (List PV)
  | [], [] => some []
  | none :: r, _ :: q => matchS r q
  | some t :: r, v :: q => match matchV t v with
    | some a => consP a (matchS r q)
    | none => none
  | _, _ => none
def scopeS (n : Nat) : TS → Bool
  | [] => true
  | none :: r => scopeS n r
  | some t :: r => scopeV n t && scopeS n r
theorem scopeS_ok {n : Nat} : ∀ {t : TS} {p : List PV}, scopeS n t = true → ∀ (i : Nat) v, (instS t p)[i]? = some v → v = .top ∨ inS n v = true
  | [], _, _, i, v, h => by simp [instS] at h
  | none :: r, p, hs, 0, v, h => by simp [instS] at h; exact .inl h.symm
  | none :: r, p, hs, i + 1, v, h => by
    simp only [instS, List.getElem?_cons_succ] at h
    exact scopeS_ok (by simpa [scopeS] using hs) i v h
  | some t :: r, p, hs, 0, v, h => by
    simp only [scopeS, Bool.and_eq_true] at hs
    simp only [instS, List.getElem?_cons_zero, Option.some.injEq] at h
    subst h; exact .inr (scopeV_ok hs.1)
  | some t :: r, p, hs, i + 1, v, h => by
    simp only [scopeS, Bool.and_eq_true] at hs
    simp only [instS, List.getElem?_cons_succ] at h
    exact scopeS_ok hs.2 i v h
theorem matchS_ok : ∀ {t : TS} {l : List V} {ps : List PV}, matchS t l = some ps → ps.length = takesS t ∧ ∀ r, (instS t (ps ++ r)).length = l.length ∧ ∀ (i : Nat) v, (instS t (ps ++ r))[i]? = some v → v = .top ∨ l[i]? = some v
  | [], [], ps, h => by simp only [matchS] at h; cases h; exact ⟨rfl, fun r => ⟨rfl, fun i v h => by simp [instS] at h⟩⟩
  | [], _ :: _, ps, h => by simp only [matchS] at h; cases h
  | none :: _, [], ps, h => by simp only [matchS] at h; cases h
  | some _ :: _, [], ps, h => by simp only [matchS] at h; cases h
  | none :: r, u :: q, ps, h => by
    simp only [matchS] at h
    obtain ⟨h1, h2⟩ := matchS_ok h
    refine ⟨h1, fun r' => ⟨by simp only [instS, List.length_cons, (h2 r').1], fun i v hi => ?_⟩⟩
    cases i with
    | zero => simp [instS] at hi; exact .inl hi.symm
    | succ i =>
      simp only [instS, List.getElem?_cons_succ] at hi ⊢
      exact (h2 r').2 i v hi
  | some t :: r, u :: q, ps, h => by
    simp only [matchS] at h
    split at h
    · rename_i a ha
      obtain ⟨h1, h2⟩ := matchV_ok ha
      cases hb : matchS r q with
      | none => rw [hb] at h; cases h
      | some b =>
        rw [hb] at h
        simp only [consP] at h
        cases h
        obtain ⟨h3, h4⟩ := matchS_ok hb
        refine ⟨by simp [takesS, h1, h3], fun r' => ?_⟩
        have e : instS (some t :: r) (a ++ b ++ r') = u :: instS r (b ++ r') := by
          simp only [instS, List.append_assoc]
          rw [h2, ← h1, dropP_append]
        rw [e]
        refine ⟨by simp only [List.length_cons, (h4 r').1], fun i v hi => ?_⟩
        cases i with
        | zero => simp at hi; exact .inr (by simp [hi])
        | succ i =>
          simp only [List.getElem?_cons_succ] at hi ⊢
          exact (h4 r').2 i v hi
    · cases h

inductive TB where
  | dead
  | ro (r : TR)
  | glob (g : Nat) (r : TR)
  | rs (nn : Bool) (sz : Nat) (r : TR)
  | own (ty : TypeId) (r : TR)
  | grow (nn : Bool) (ty : TypeId) (sz : Nat) (r : TR)
  | defs
  | loopB (busy : Bool) (me : FuncId) (tmps : TS) (ps : List Nat) (assign body : Code) (d : Nat)
def lst (busy : Bool) : LSt := match busy with | true => .busy | false => .ready
def takesB : TB → Nat
  | .dead | .defs => 0
  | .ro r | .glob _ r | .rs _ _ r | .own _ r | .grow _ _ _ r => takesR r
  | .loopB _ _ tmps _ _ _ _ => takesS tmps
def instB : TB → List PV → Blk
  | .dead, _ => .dead
  | .defs, _ => .defs
  | .ro r, p => .ro (instR r p)
  | .glob g r, p => .glob g (instR r p)
  | .rs nn sz r, p => .rs nn sz (instR r p)
  | .own ty r, p => .own ty (instR r p)
  | .grow nn ty sz r, p => .grow nn ty sz (instR r p)
  | .loopB busy me tmps ps assign body d, p => .loopB (lst busy) me (instS tmps p) ps assign body d
def scopeB (n : Nat) : TB → Bool
  | .dead | .defs => true
  | .ro r | .glob _ r | .rs _ _ r | .own _ r | .grow _ _ _ r => scopeR n r
  | .loopB _ _ tmps _ _ _ d => scopeS n tmps && Nat.blt d n
def eqNs : List Nat → List Nat → Bool
  | [], [] => true
  | a :: r, b :: q => Nat.beq a b && eqNs r q
  | _, _ => false
theorem eqNs_ok : ∀ {a b : List Nat}, eqNs a b = true → a = b
  | [], [], _ => rfl
  | [], _ :: _, h => by cases h
  | _ :: _, [], h => by cases h
  | a :: r, b :: q, h => by
    simp only [eqNs, Bool.and_eq_true] at h
    rw [Nat.eq_of_beq_eq_true h.1, eqNs_ok h.2]
def withC (c : List (Code × Code)) : Option (List PV) → Option (List PV × List (Code × Code))
  | some p => some (p, c)
  | none => none
/-- The slots of a range over a function: none may be forgotten. -/
def topless : TS → Bool
  | [] => true
  | none :: _ => false
  | some _ :: r => topless r
def isBusy : LSt → Bool → Bool
  | .ready, false => true
  | .busy, true => true
  | _, _ => false
theorem isBusy_ok {st : LSt} {b : Bool} (h : isBusy st b = true) : st = lst b := by
  cases st <;> cases b <;> first | rfl | cases h
def beqB (a b : Bool) : Bool := match a, b with | true, true => true | false, false => true | _, _ => false
theorem beqB_ok {a b : Bool} (h : beqB a b = true) : a = b := by cases a <;> cases b <;> first | rfl | cases h
/-- The template's mark for 'not nil' may be weaker. -/
def nnLe (t b : Bool) : Bool := match t with | true => b | false => true
def matchB : TB → Blk → Option (List PV × List (Code × Code))
  | .dead, _ => some ([], [])
  | .defs, .defs => some ([], [])
  | .ro r, .ro w => withC [] (matchR r w)
  | .glob g r, .glob g' w => match Nat.beq g g' with | true => withC [] (matchR r w) | false => none
  | .rs nn sz r, .rs nn' sz' w => match beqB nn nn' && Nat.beq sz sz' with | true => withC [] (matchR r w) | false => none
  | .own ty r, .own ty' w => match Nat.beq ty ty' with | true => withC [] (matchR r w) | false => none
  | .grow nn ty sz r, .grow nn' ty' sz' w => match nnLe nn nn' && (Nat.beq ty ty' && Nat.beq sz sz') with | true => withC [] (matchR r w) | false => none
  | .loopB busy me tmps ps assign body d, .loopB st me' l ps' assign' body' d' => match (isBusy st busy && topless tmps) && (Nat.beq me me' && (eqNs ps ps' && Nat.beq d d')) with
    | true => withC [(assign, assign'), (body, body')] (matchS tmps l)
    | false => none
  | _, _ => none

theorem matchS_full : ∀ {t : TS} {l : List V} {ps : List PV}, topless t = true → matchS t l = some ps → ∀ r, instS t (ps ++ r) = l
  | [], [], ps, _, h, r => by simp only [matchS] at h; cases h; rfl
  | [], _ :: _, ps, _, h, r => by simp only [matchS] at h; cases h
  | none :: _, _, ps, ht, h, r => by simp [topless] at ht
  | some _ :: _, [], ps, _, h, r => by simp only [matchS] at h; cases h
  | some t :: q, u :: l, ps, ht, h, r => by
    simp only [matchS] at h
    split at h
    · rename_i a ha
      obtain ⟨h1, h2⟩ := matchV_ok ha
      cases hb : matchS q l with
      | none => rw [hb] at h; cases h
      | some b =>
        rw [hb] at h
        simp only [consP] at h
        cases h
        simp only [instS, List.append_assoc]
        rw [h2, ← h1, dropP_append, matchS_full (by simpa [topless] using ht) hb]
    · cases h
theorem slotsIn_of {n : Nat} : ∀ {l : List V}, (∀ (i : Nat) v, l[i]? = some v → v = .top ∨ inS n v = true) → slotsIn n l = true
  | [], _ => rfl
  | v :: r, h => by
    simp only [slotsIn, Bool.and_eq_true]
    refine ⟨?_, slotsIn_of fun i u hi => h (i + 1) u (by simpa using hi)⟩
    rcases h 0 v rfl with rfl | h1
    · rfl
    · cases v <;> first | exact h1 | rfl
theorem scopeB_ok {n : Nat} {t : TB} {p : List PV} (h : scopeB n t = true) : blkIn n (instB t p) = true := by
  cases t with
  | dead => rfl
  | defs => rfl
  | loopB busy me tmps ps assign body d =>
    simp only [scopeB, Bool.and_eq_true] at h
    simp only [instB, blkIn, Bool.and_eq_true]
    exact ⟨slotsIn_of (scopeS_ok h.1), h.2⟩
  | _ => exact scopeR_ok h

def codesOk (c : List (Code × Code)) : Prop := ∀ x ∈ c, x.1 = x.2
theorem matchB_ok {n : Nat} {t : TB} {b : Blk} {ps : List PV} {c : List (Code × Code)} (h : matchB t b = some (ps, c)) (hc : codesOk c) (hs : scopeB n t = true) : ps.length = takesB t ∧ ∀ r, BlkI n b (instB t (ps ++ r)) := by
  have rowc : ∀ {t : TR} {w : Row}, withC [] (matchR t w) = some (ps, c) → matchR t w = some ps := fun {t w} h => by
    cases hm : matchR t w with
    | none => rw [hm] at h; cases h
    | some q => rw [hm] at h; simp only [withC, Option.some.injEq, Prod.mk.injEq] at h; rw [h.1]
  have hin : ∀ r, blkIn n (instB t (ps ++ r)) = true := fun r => scopeB_ok hs
  cases t with
  | dead => simp only [matchB] at h; cases h; exact ⟨rfl, fun r => .dead _⟩
  | defs => cases b <;> simp only [matchB] at h <;> cases h; exact ⟨rfl, fun r => .same _ rfl⟩
  | ro t =>
    cases b <;> simp only [matchB] at h <;> try cases h
    obtain ⟨h1, h2⟩ := matchR_ok (rowc h)
    refine ⟨h1, fun r => ?_⟩
    have e : ∀ r, instB (.ro t) (ps ++ r) = .ro _ := fun r => by simp only [instB]; rw [h2]
    have := hin r
    rw [e] at this ⊢
    exact .same _ this
  | glob g t =>
    cases b <;> simp only [matchB] at h <;> try cases h
    split at h
    · rename_i hq
      have := Nat.eq_of_beq_eq_true hq
      subst this
      obtain ⟨h1, h2⟩ := matchR_ok (rowc h)
      refine ⟨h1, fun r => ?_⟩
      have e : ∀ r, instB (.glob g t) (ps ++ r) = .glob g _ := fun r => by simp only [instB]; rw [h2]
      have := hin r
      rw [e] at this ⊢
      exact .same _ this
    · cases h
  | rs nn sz t =>
    cases b <;> simp only [matchB] at h <;> try cases h
    split at h
    · rename_i hq
      simp only [Bool.and_eq_true] at hq
      have e1 := beqB_ok hq.1
      have e2 := Nat.eq_of_beq_eq_true hq.2
      subst e1; subst e2
      obtain ⟨h1, h2⟩ := matchR_ok (rowc h)
      refine ⟨h1, fun r => ?_⟩
      have e : ∀ r, instB (.rs nn sz t) (ps ++ r) = .rs nn sz _ := fun r => by simp only [instB]; rw [h2]
      have := hin r
      rw [e] at this ⊢
      exact .same _ this
    · cases h
  | own ty t =>
    cases b <;> simp only [matchB] at h <;> try cases h
    split at h
    · rename_i hq
      have := Nat.eq_of_beq_eq_true hq
      subst this
      obtain ⟨h1, h2⟩ := matchR_ok (rowc h)
      refine ⟨h1, fun r => ?_⟩
      have e : ∀ r, instB (.own ty t) (ps ++ r) = .own ty _ := fun r => by simp only [instB]; rw [h2]
      have := hin r
      rw [e] at this ⊢
      exact .same _ this
    · cases h
  | grow nn ty sz t =>
    cases b <;> simp only [matchB] at h <;> try cases h
    rename_i nn' ty' sz' row
    split at h
    · rename_i hq
      simp only [Bool.and_eq_true] at hq
      have e1 := Nat.eq_of_beq_eq_true hq.2.1
      have e2 := Nat.eq_of_beq_eq_true hq.2.2
      subst e1; subst e2
      obtain ⟨h1, h2⟩ := matchR_ok (rowc h)
      refine ⟨h1, fun r => ?_⟩
      have e : ∀ r, instB (.grow nn ty sz t) (ps ++ r) = .grow nn ty sz _ := fun r => by simp only [instB]; rw [h2]
      have hi := hin r
      rw [e] at hi ⊢
      cases nn <;> cases nn' <;> first | exact .same _ hi | exact .nil _ _ _ hi | (simp [nnLe] at hq)
    · cases h
  | loopB busy me tmps qs assign body d =>
    cases b <;> simp only [matchB] at h <;> try cases h
    rename_i st me' l ps' assign' body' d'
    split at h
    · rename_i hq
      simp only [Bool.and_eq_true] at hq
      obtain ⟨⟨q1, q2⟩, q3, q4, q5⟩ := hq
      have e1 := isBusy_ok q1
      have e2 := Nat.eq_of_beq_eq_true q3
      have e3 := eqNs_ok q4
      have e4 := Nat.eq_of_beq_eq_true q5
      subst e1; subst e2; subst e3; subst e4
      cases hm : matchS tmps l with
      | none => rw [hm] at h; cases h
      | some w =>
        rw [hm] at h
        simp only [withC, Option.some.injEq, Prod.mk.injEq] at h
        obtain ⟨rfl, rfl⟩ := h
        have c1 : assign = assign' := hc (assign, assign') (by simp)
        have c2 : body = body' := hc (body, body') (by simp)
        subst c1; subst c2
        refine ⟨(matchS_ok hm).1, fun r => ?_⟩
        have e : ∀ r, instB (.loopB busy me tmps qs assign body d) (w ++ r) = .loopB (lst busy) me l qs assign body d := fun r => by simp only [instB]; rw [matchS_full q2 hm]
        have := hin r
        rw [e] at this ⊢
        exact .same _ this
    · cases h

def takesH : List TB → Nat
  | [] => 0
  | t :: r => takesB t + takesH r
def instH : List TB → List PV → List Blk
  | [], _ => []
  | t :: r, p => instB t p :: instH r (dropP (takesB t) p)
def scopeH (n : Nat) : List TB → Bool
  | [] => true
  | t :: r => scopeB n t && scopeH n r
def consPC (a : List PV × List (Code × Code)) : Option (List PV × List (Code × Code)) → Option (List PV × List (Code × Code))
  | some b => some (a.1 ++ b.1, a.2 ++ b.2)
  | none => none
/-- The blocks behind the template's are let go. -/
def matchH : List TB → List Blk → Option (List PV × List (Code × Code))
  | [], _ => some ([], [])
  | t :: r, b :: q => match matchB t b with
    | some a => consPC a (matchH r q)
    | none => none
  | _ :: _, [] => none
theorem instH_len : ∀ {t : List TB} {p : List PV}, (instH t p).length = t.length
  | [], _ => rfl
  | _ :: r, p => by simp only [instH, List.length_cons, instH_len (t := r)]
theorem matchH_ok {n : Nat} : ∀ {t : List TB} {h : List Blk} {ps : List PV} {c : List (Code × Code)}, matchH t h = some (ps, c) → codesOk c → scopeH n t = true →
    t.length ≤ h.length ∧ ∀ r (b : Nat) blk2, (instH t (ps ++ r))[b]? = some blk2 → ∃ blk, h[b]? = some blk ∧ BlkI n blk blk2
  | [], h, ps, c, _, _, _ => ⟨Nat.zero_le _, fun r b blk2 hb => by simp [instH] at hb⟩
  | _ :: _, [], ps, c, hm, _, _ => by simp only [matchH] at hm; cases hm
  | t :: r, b :: q, ps, c, hm, hc, hs => by
    simp only [matchH] at hm
    simp only [scopeH, Bool.and_eq_true] at hs
    split at hm
    · rename_i a ha
      obtain ⟨pa, ca⟩ := a
      cases hb : matchH r q with
      | none => rw [hb] at hm; cases hm
      | some w =>
        obtain ⟨pw, cw⟩ := w
        rw [hb] at hm
        simp only [consPC, Option.some.injEq, Prod.mk.injEq] at hm
        obtain ⟨rfl, rfl⟩ := hm
        obtain ⟨h1, h2⟩ := matchB_ok ha (fun x hx => hc x (by simp [hx])) hs.1
        obtain ⟨h3, h4⟩ := matchH_ok hb (fun x hx => hc x (by simp [hx])) hs.2
        refine ⟨by simp only [List.length_cons]; omega, fun r' i blk2 hi => ?_⟩
        simp only [instH, List.append_assoc] at hi
        cases i with
        | zero =>
          simp only [List.getElem?_cons_zero, Option.some.injEq] at hi
          subst hi
          exact ⟨b, rfl, h2 _⟩
        | succ i =>
          simp only [List.getElem?_cons_succ] at hi ⊢
          rw [← h1, dropP_append] at hi
          exact h4 r' i blk2 hi
    · cases hm

structure Tm where
  slots : TS
  blks : List TB
  marks : List Nat
def Tm.at (T : Tm) (p : List PV) : AS := ⟨instS T.slots p, instH T.blks (dropP (takesS T.slots) p), T.marks⟩
def Tm.ok (T : Tm) : Bool := (scopeS T.blks.length T.slots && scopeH T.blks.length T.blks) && T.marks.all (Nat.blt · T.blks.length)
def Tm.match (T : Tm) (s : AS) : Option (List PV × List (Code × Code)) := match eqNs T.marks s.marks with
  | true => match matchS T.slots s.tmps with
    | some a => consPC (a, []) (matchH T.blks s.heap)
    | none => none
  | false => none
theorem Tm.match_ok {T : Tm} {s : AS} {ps : List PV} {c : List (Code × Code)} (hm : T.match s = some (ps, c)) (hc : codesOk c) (hk : T.ok = true) : SubI s (T.at ps) := by
  unfold Tm.match at hm
  simp only [Tm.ok, Bool.and_eq_true, List.all_eq_true] at hk
  obtain ⟨⟨k1, k2⟩, k3⟩ := hk
  split at hm
  · rename_i he
    split at hm
    · rename_i a ha
      cases hb : matchH T.blks s.heap with
      | none => rw [hb] at hm; cases hm
      | some w =>
        obtain ⟨pw, cw⟩ := w
        rw [hb] at hm
        simp only [consPC, Option.some.injEq, Prod.mk.injEq, List.nil_append] at hm
        obtain ⟨rfl, rfl⟩ := hm
        obtain ⟨h1, h2⟩ := matchS_ok ha
        obtain ⟨h3, h4⟩ := matchH_ok hb hc k2
        have hd : dropP (takesS T.slots) (a ++ pw) = pw := by rw [← h1, dropP_append]
        have hlen : (T.at (a ++ pw)).heap.length = T.blks.length := instH_len
        refine ⟨(h2 pw).1, fun i v hi => ?_, by rw [hlen]; exact h3, fun b blk2 hb' => ?_, eqNs_ok he, fun b hb' => ?_⟩
        · rw [hlen]
          rcases (h2 pw).2 i v hi with h5 | h5
          · exact .inl h5
          · rcases scopeS_ok k1 i v hi with h6 | h6
            · exact .inl h6
            · exact .inr ⟨h5, h6⟩
        · rw [hlen]
          simp only [Tm.at, hd] at hb'
          have := h4 [] b blk2
          rw [List.append_nil] at this
          exact this hb'
        · rw [hlen]
          have := k3 b hb'
          simpa using this
    · cases hm
  · cases hm
theorem Tm.at_len (T : Tm) (p : List PV) : (T.at p).heap.length = T.blks.length := instH_len
theorem instH_in {n : Nat} : ∀ {t : List TB} {p : List PV}, scopeH n t = true → ∀ (b : Nat) blk, (instH t p)[b]? = some blk → blkIn n blk = true
  | [], _, _, b, blk, h => by simp [instH] at h
  | t :: r, p, hs, 0, blk, h => by
    simp only [scopeH, Bool.and_eq_true] at hs
    simp only [instH, List.getElem?_cons_zero, Option.some.injEq] at h
    subst h; exact scopeB_ok hs.1
  | t :: r, p, hs, b + 1, blk, h => by
    simp only [scopeH, Bool.and_eq_true] at hs
    simp only [instH, List.getElem?_cons_succ] at h
    exact instH_in hs.2 b blk h
theorem Tm.at_in {T : Tm} {p : List PV} (hk : T.ok = true) (b : Nat) (blk : Blk) (h : (T.at p).heap[b]? = some blk) : blkIn T.blks.length blk = true := by
  simp only [Tm.ok, Bool.and_eq_true] at hk
  exact instH_in hk.1.2 b blk h
end Go.Eng
