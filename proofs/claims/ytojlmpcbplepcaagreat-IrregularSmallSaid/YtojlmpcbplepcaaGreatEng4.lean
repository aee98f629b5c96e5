/- THE ENGINE, piece 4: an interpreter of the model over abstract values, proved sound. -/
import Derived.Test.YtojlmpcbplepcaaGreatEng3
import Derived.WalkKit
import Derived.ProofKit
import Derived.OpenShut
import Derived.Below
import Derived.WideKeyPair
import Derived.ChangeSlices
import Derived.Shelf.Strings.OnBuilder
import Derived.Test.YtojlmpcbplepcaaGreatEng1
/- ENGINE, PART 13: families of states; loops that are known as a whole. -/
namespace Go.Eng
open Go

/-- What a state of a family is made of. -/
inductive PV where
  | i (n : Int)
  | b (b : Bool)
  | n (n : Nat)
  | s (s : ByteArray)
  | l (l : List Int)
  | ss (l : List ByteArray)

inductive TV where
  | int (k : IntKind)
  | bool
  | str
  | nil
  | lit (k : IntKind) (n : Int)
  | ptr (b off : Nat)
  | glob (g off : Nat)
  | gs (b : Nat)
  | view (b sz : Nat)
  | yield (b : Nat)
  | func (f : FuncId) (caps : List TV)
  | agg (l : List TV)
  | tuple (l : List TV)

def headP : List PV → PV
  | [] => .n 0
  | p :: _ => p
def tailP : List PV → List PV
  | [] => []
  | _ :: r => r
def PV.toI : PV → Int | .i z => z | _ => 0
def PV.toB : PV → Bool | .b z => z | _ => false
def PV.toN : PV → Nat | .n z => z | _ => 0
def PV.toS : PV → ByteArray | .s z => z | _ => ⟨#[]⟩
def PV.toL : PV → List Int | .l z => z | _ => []
def PV.toSs : PV → List ByteArray | .ss z => z | _ => []

mutual
/-- How many parts a template takes. -/
def takesV : TV → Nat
  | .int _ | .bool | .str => 1
  | .view _ _ => 2
  | .func _ l => takesVs l
  | .agg l => takesVs l
  | .tuple l => takesVs l
  | _ => 0
def takesVs : List TV → Nat
  | [] => 0
  | t :: r => takesV t + takesVs r
end
def dropP : Nat → List PV → List PV
  | 0, l => l
  | n + 1, l => dropP n (tailP l)
mutual
def instV : TV → List PV → V
  | .int k, p => .int k (headP p).toI
  | .bool, p => .bool (headP p).toB
  | .str, p => .str (headP p).toS
  | .nil, _ => .flat (.slice none 0 0)
  | .lit k n, _ => .int k n
  | .ptr b off, _ => .ptr b off
  | .glob g off, _ => .glob g off
  | .gs b, _ => .gs b
  | .view b sz, p => .view b (headP p).toN sz (headP (tailP p)).toN
  | .yield b, _ => .yield b
  | .func f l, p => .func f (instVs l p)
  | .agg l, p => .agg (instVs l p)
  | .tuple l, p => .tuple (instVs l p)
def instVs : List TV → List PV → List V
  | [], _ => []
  | t :: r, p => instV t p :: instVs r (dropP (takesV t) p)
end
def consP (a : List PV) : Option (List PV) → Option (List PV)
  | some b => some (a ++ b)
  | none => none
def litEq (k : IntKind) (n : Int) (k' : IntKind) (n' : Int) : Bool := decide (k = k') && decide (n = n')
def isNilV : V → Bool
  | .flat (.slice none 0 0) => true
  | _ => false
theorem isNilV_ok {v : V} (h : isNilV v = true) : v = .flat (.slice none 0 0) := by
  unfold isNilV at h
  split at h
  · rfl
  · cases h
mutual
def matchV : TV → V → Option (List PV)
  | .int k, .int k' n => match decide (k = k') with | true => some [.i n] | false => none
  | .bool, .bool b => some [.b b]
  | .str, .str s => some [.s s]
  | .nil, v => match isNilV v with | true => some [] | false => none
  | .lit k n, .int k' n' => match litEq k n k' n' with | true => some [] | false => none
  | .ptr b off, .ptr b' off' => match Nat.beq b b' && Nat.beq off off' with | true => some [] | false => none
  | .glob b off, .glob b' off' => match Nat.beq b b' && Nat.beq off off' with | true => some [] | false => none
  | .gs b, .gs b' => match Nat.beq b b' with | true => some [] | false => none
  | .view b sz, .view b' l sz' len => match Nat.beq b b' && Nat.beq sz sz' with | true => some [.n l, .n len] | false => none
  | .yield b, .yield b' => match Nat.beq b b' with | true => some [] | false => none
  | .func f l, .func f' l' => match Nat.beq f f' with | true => matchVs l l' | false => none
  | .agg l, .agg l' => matchVs l l'
  | .tuple l, .tuple l' => matchVs l l'
  | _, _ => none
def matchVs : List TV → List V → Option (List PV)
  | [], [] => some []
  | t :: r, v :: q => match matchV t v with
    | some a => consP a (matchVs r q)
    | none => none
  | _, _ => none
end
theorem dropP_append (a b : List PV) : dropP a.length (a ++ b) = b := by
  induction a with
  | nil => rfl
  | cons x r ih => exact ih
mutual
theorem matchV_ok : ∀ {t : TV} {v : V} {ps : List PV}, matchV t v = some ps → ps.length = takesV t ∧ ∀ r, instV t (ps ++ r) = v
  | .int k, v, ps, h => by
    cases v <;> simp only [matchV] at h <;> try cases h
    split at h
    · rename_i hk; simp only [decide_eq_true_eq] at hk; cases h; subst hk; exact ⟨rfl, fun r => rfl⟩
    · cases h
  | .bool, v, ps, h => by cases v <;> simp only [matchV] at h <;> cases h; exact ⟨rfl, fun r => rfl⟩
  | .str, v, ps, h => by cases v <;> simp only [matchV] at h <;> cases h; exact ⟨rfl, fun r => rfl⟩
  | .nil, v, ps, h => by
    simp only [matchV] at h
    split at h
    · rename_i hk; rw [isNilV_ok hk]; cases h; exact ⟨rfl, fun r => rfl⟩
    · cases h
  | .lit k n, v, ps, h => by
    cases v <;> simp only [matchV] at h <;> try cases h
    split at h
    · rename_i hk
      simp only [litEq, Bool.and_eq_true, decide_eq_true_eq] at hk
      obtain ⟨rfl, rfl⟩ := hk
      cases h; exact ⟨rfl, fun r => rfl⟩
    · cases h
  | .ptr b off, v, ps, h => by
    cases v <;> simp only [matchV] at h <;> try cases h
    split at h
    · rename_i hk
      simp only [Bool.and_eq_true] at hk
      have e1 := Nat.eq_of_beq_eq_true hk.1
      have e2 := Nat.eq_of_beq_eq_true hk.2
      subst e1; subst e2; cases h; exact ⟨rfl, fun r => rfl⟩
    · cases h
  | .glob b off, v, ps, h => by
    cases v <;> simp only [matchV] at h <;> try cases h
    split at h
    · rename_i hk
      simp only [Bool.and_eq_true] at hk
      have e1 := Nat.eq_of_beq_eq_true hk.1
      have e2 := Nat.eq_of_beq_eq_true hk.2
      subst e1; subst e2; cases h; exact ⟨rfl, fun r => rfl⟩
    · cases h
  | .gs b, v, ps, h => by
    cases v <;> simp only [matchV] at h <;> try cases h
    split at h
    · rename_i hk
      have e1 := Nat.eq_of_beq_eq_true hk
      subst e1; cases h; exact ⟨rfl, fun r => rfl⟩
    · cases h
  | .view b sz, v, ps, h => by
    cases v <;> simp only [matchV] at h <;> try cases h
    split at h
    · rename_i hk
      simp only [Bool.and_eq_true] at hk
      have e1 := Nat.eq_of_beq_eq_true hk.1
      have e2 := Nat.eq_of_beq_eq_true hk.2
      subst e1; subst e2; cases h; exact ⟨rfl, fun r => rfl⟩
    · cases h
  | .yield b, v, ps, h => by
    cases v <;> simp only [matchV] at h <;> try cases h
    split at h
    · rename_i hk
      have e1 := Nat.eq_of_beq_eq_true hk
      subst e1; cases h; exact ⟨rfl, fun r => rfl⟩
    · cases h
  | .func f l, v, ps, h => by
    cases v <;> simp only [matchV] at h <;> try cases h
    split at h
    · rename_i hk
      have e1 := Nat.eq_of_beq_eq_true hk
      subst e1
      obtain ⟨h1, h2⟩ := matchVs_ok h
      exact ⟨h1, fun r => by simp only [instV]; rw [h2]⟩
    · cases h
  | .agg l, v, ps, h => by
    cases v <;> simp only [matchV] at h <;> try cases h
    obtain ⟨h1, h2⟩ := matchVs_ok h
    exact ⟨h1, fun r => by simp only [instV]; rw [h2]⟩
  | .tuple l, v, ps, h => by
    cases v <;> simp only [matchV] at h <;> try cases h
    obtain ⟨h1, h2⟩ := matchVs_ok h
    exact ⟨h1, fun r => by simp only [instV]; rw [h2]⟩
theorem matchVs_ok : ∀ {t : List TV} {v : List V} {ps : List PV}, matchVs t v = some ps → ps.length = takesVs t ∧ ∀ r, instVs t (ps ++ r) = v
  | [], [], ps, h => by simp only [matchVs] at h; cases h; exact ⟨rfl, fun r => rfl⟩
  | [], _ :: _, ps, h => by simp only [matchVs] at h; cases h
  | _ :: _, [], ps, h => by simp only [matchVs] at h; cases h
  | t :: r, v :: q, ps, h => by
    simp only [matchVs] at h
    split at h
    · rename_i a ha
      obtain ⟨h1, h2⟩ := matchV_ok ha
      cases hb : matchVs r q with
      | none => rw [hb] at h; cases h
      | some b =>
        rw [hb] at h
        simp only [consP] at h
        cases h
        obtain ⟨h3, h4⟩ := matchVs_ok hb
        refine ⟨by simp [takesVs, h1, h3], fun r' => ?_⟩
        simp only [instVs, List.append_assoc]
        rw [h2, ← h1, dropP_append, h4]
    · cases h
end

mutual
def scopeV (n : Nat) : TV → Bool
  | .ptr b _ => Nat.blt b n
  | .gs b => Nat.blt b n
  | .view b _ => Nat.blt b n
  | .yield b => Nat.blt b n
  | .func _ l => scopeVs n l
  | .agg l => scopeVs n l
  | .tuple l => scopeVs n l
  | _ => true
def scopeVs (n : Nat) : List TV → Bool
  | [] => true
  | t :: r => scopeV n t && scopeVs n r
end
mutual
theorem scopeV_ok {n : Nat} : ∀ {t : TV} {p : List PV}, scopeV n t = true → inS n (instV t p) = true
  | .int _, _, _ | .bool, _, _ | .str, _, _ | .nil, _, _ | .lit _ _, _, _ | .glob _ _, _, _ => by simp [instV, inS]
  | .ptr b _, _, h => by simpa [instV, inS, scopeV] using h
  | .gs b, _, h => by simpa [instV, inS, scopeV] using h
  | .view b _, _, h => by simpa [instV, inS, scopeV] using h
  | .yield b, _, h => by simpa [instV, inS, scopeV] using h
  | .func _ l, _, h => by simp only [instV, inS]; exact scopeVs_ok (by simpa [scopeV] using h)
  | .agg l, _, h => by simp only [instV, inS]; exact scopeVs_ok (by simpa [scopeV] using h)
  | .tuple l, _, h => by simp only [instV, inS]; exact scopeVs_ok (by simpa [scopeV] using h)
theorem scopeVs_ok {n : Nat} : ∀ {t : List TV} {p : List PV}, scopeVs n t = true → inSs n (instVs t p) = true
  | [], _, _ => rfl
  | t :: r, _, h => by
    simp only [scopeVs, Bool.and_eq_true] at h
    simp only [instVs, inSs, Bool.and_eq_true]
    exact ⟨scopeV_ok h.1, scopeVs_ok h.2⟩
end

/-! ### rows, blocks, states -/
inductive TR where
  | vs (l : List TV)
  | ints (k : IntKind)
  | strs
def takesR : TR → Nat
  | .vs l => takesVs l
  | _ => 1
def instR : TR → List PV → Row
  | .vs l, p => .vs (instVs l p)
  | .ints k, p => .ints k (headP p).toL
  | .strs, p => .strs (headP p).toSs
def scopeR (n : Nat) : TR → Bool
  | .vs l => scopeVs n l
  | _ => true
theorem scopeR_ok {n : Nat} {t : TR} {p : List PV} (h : scopeR n t = true) : rowIn n (instR t p) = true := by
  cases t with
  | vs l => exact scopeVs_ok h
  | _ => rfl
def matchR : TR → Row → Option (List PV)
  | .vs l, .vs l' => matchVs l l'
  | .ints k, .ints k' l => match decide (k = k') with | true => some [.l l] | false => none
  | .strs, .strs l => some [.ss l]
  | _, _ => none
theorem matchR_ok {t : TR} {v : Row} {ps : List PV} (h : matchR t v = some ps) : ps.length = takesR t ∧ ∀ r, instR t (ps ++ r) = v := by
  cases t with
  | vs l =>
    cases v <;> simp only [matchR] at h <;> try cases h
    obtain ⟨h1, h2⟩ := matchVs_ok h
    exact ⟨h1, fun r => by simp only [instR]; rw [h2]⟩
  | ints k =>
    cases v <;> simp only [matchR] at h <;> try cases h
    split at h
    · rename_i hk; simp only [decide_eq_true_eq] at hk; subst hk; cases h; exact ⟨rfl, fun r => rfl⟩
    · cases h
  | strs => cases v <;> simp only [matchR] at h <;> cases h; exact ⟨rfl, fun r => rfl⟩

abbrev TS := List (Option TV)
def takesS : TS → Nat
  | [] => 0
  | none :: r => takesS r
  | some t :: r => takesV t + takesS r
def instS : TS → List PV → List V
  | [], _ => []
  | none :: r, p => .top :: instS r p
  | some t :: r, p => instV t p :: instS r (dropP (takesV t) p)
def matchS : TS → List V → Option (List PV)
  | [], [] => some []
  | none :: r, _ :: q => matchS r q
  | some t :: r, v :: q => match matchV t v with
    | some a => consP a (matchS r q)
    | none => none
  | _, _ => none
def scopeS (n : Nat) : TS → Bool
  | [] => true
  | none :: r => scopeS n r
  | some t :: r => scopeV n t && scopeS n r
theorem scopeS_ok {n : Nat} : ∀ {t : TS} {p : List PV}, scopeS n t = true → ∀ (i : Nat) v, (instS t p)[i]? = some v → v = .top ∨ inS n v = true
  | [], _, _, i, v, h => by simp [instS] at h
  | none :: r, p, hs, 0, v, h => by simp [instS] at h; exact .inl h.symm
  | none :: r, p, hs, i + 1, v, h => by
    simp only [instS, List.getElem?_cons_succ] at h
    exact scopeS_ok (by simpa [scopeS] using hs) i v h
  | some t :: r, p, hs, 0, v, h => by
    simp only [scopeS, Bool.and_eq_true] at hs
    simp only [instS, List.getElem?_cons_zero, Option.some.injEq] at h
    subst h; exact .inr (scopeV_ok hs.1)
  | some t :: r, p, hs, i + 1, v, h => by
    simp only [scopeS, Bool.and_eq_true] at hs
    simp only [instS, List.getElem?_cons_succ] at h
    exact scopeS_ok hs.2 i v h
theorem matchS_ok : ∀ {t : TS} {l : List V} {ps : List PV}, matchS t l = some ps → ps.length = takesS t ∧ ∀ r, (instS t (ps ++ r)).length = l.length ∧ ∀ (i : Nat) v, (instS t (ps ++ r))[i]? = some v → v = .top ∨ l[i]? = some v
  | [], [], ps, h => by simp only [matchS] at h; cases h; exact ⟨rfl, fun r => ⟨rfl, fun i v h => by simp [instS] at h⟩⟩
  | [], _ :: _, ps, h => by simp only [matchS] at h; cases h
  | none :: _, [], ps, h => by simp only [matchS] at h; cases h
  | some _ :: _, [], ps, h => by simp only [matchS] at h; cases h
  | none :: r, u :: q, ps, h => by
    simp only [matchS] at h
    obtain ⟨h1, h2⟩ := matchS_ok h
    refine ⟨h1, fun r' => ⟨by simp only [instS, List.length_cons, (h2 r').1], fun i v hi => ?_⟩⟩
    cases i with
    | zero => simp [instS] at hi; exact .inl hi.symm
    | succ i =>
      simp only [instS, List.getElem?_cons_succ] at hi ⊢
      exact (h2 r').2 i v hi
  | some t :: r, u :: q, ps, h => by
    simp only [matchS] at h
    split at h
    · rename_i a ha
      obtain ⟨h1, h2⟩ := matchV_ok ha
      cases hb : matchS r q with
      | none => rw [hb] at h; cases h
      | some b =>
        rw [hb] at h
        simp only [consP] at h
        cases h
        obtain ⟨h3, h4⟩ := matchS_ok hb
        refine ⟨by simp [takesS, h1, h3], fun r' => ?_⟩
        have e : instS (some t :: r) (a ++ b ++ r') = u :: instS r (b ++ r') := by
          simp only [instS, List.append_assoc]
          rw [h2, ← h1, dropP_append]
        rw [e]
        refine ⟨by simp only [List.length_cons, (h4 r').1], fun i v hi => ?_⟩
        cases i with
        | zero => simp at hi; exact .inr (by simp [hi])
        | succ i =>
          simp only [List.getElem?_cons_succ] at hi ⊢
          exact (h4 r').2 i v hi
    · cases h

def lst (busy : Bool) : LSt := match busy with | true => .busy | false => .ready
instance : Coe Bool LSt := ⟨lst⟩
inductive TB where
  | dead
  | ro (r : TR)
  | glob (g : Nat) (r : TR)
  | rs (nn : Bool) (sz : Nat) (r : TR)
  | own (ty : TypeId) (r : TR)
  | grow (nn : Bool) (ty : TypeId) (sz : Nat) (r : TR)
  | defs
  | loopB (st : LSt) (me : FuncId) (tmps : TS) (ps : List Nat) (assign body : Code) (d : Nat)
  | raw (ty : TypeId) (sz : Nat)
  | lent (b0 n0 : Nat) (nn : Bool) (ty : TypeId) (sz : Nat) (r : TR)
def takesB : TB → Nat
  | .dead | .defs => 0
  | .raw _ _ => 1
  | .ro r | .glob _ r | .rs _ _ r | .own _ r | .grow _ _ _ r | .lent _ _ _ _ _ r => takesR r
  | .loopB _ _ tmps _ _ _ _ => takesS tmps
def instB : TB → List PV → Blk
  | .dead, _ => .dead
  | .defs, _ => .defs
  | .raw ty sz, p => .raw ty sz (headP p).toN
  | .ro r, p => .ro (instR r p)
  | .glob g r, p => .glob g (instR r p)
  | .rs nn sz r, p => .rs nn sz (instR r p)
  | .own ty r, p => .own ty (instR r p)
  | .grow nn ty sz r, p => .grow nn ty sz (instR r p)
  | .lent b0 n0 nn ty sz r, p => .lent b0 n0 nn ty sz (instR r p)
  | .loopB st me tmps ps assign body d, p => .loopB st me (instS tmps p) ps assign body d
def scopeB (n : Nat) : TB → Bool
  | .dead | .defs | .raw _ _ => true
  | .ro r | .glob _ r | .rs _ _ r | .own _ r | .grow _ _ _ r => scopeR n r
  | .lent b0 n0 _ _ _ r => Nat.blt b0 n && (Nat.blt n0 n && scopeR n r)
  | .loopB _ _ tmps _ _ _ d => scopeS n tmps && Nat.blt d n
def eqNs : List Nat → List Nat → Bool
  | [], [] => true
  | a :: r, b :: q => Nat.beq a b && eqNs r q
  | _, _ => false
theorem eqNs_ok : ∀ {a b : List Nat}, eqNs a b = true → a = b
  | [], [], _ => rfl
  | [], _ :: _, h => by cases h
  | _ :: _, [], h => by cases h
  | a :: r, b :: q, h => by
    simp only [eqNs, Bool.and_eq_true] at h
    rw [Nat.eq_of_beq_eq_true h.1, eqNs_ok h.2]
def withC (c : List (Code × Code)) : Option (List PV) → Option (List PV × List (Code × Code))
  | some p => some (p, c)
  | none => none
/-- The slots of a range over a function: none may be forgotten. -/
def topless : TS → Bool
  | [] => true
  | none :: _ => false
  | some _ :: r => topless r
def eqXE : XE → XE → Bool
  | .normal, .normal => true
  | .exit a, .exit b => Nat.beq a b
  | .ret, .ret => true
  | _, _ => false
theorem eqXE_ok : ∀ {a b : XE}, eqXE a b = true → a = b
  | .normal, .normal, _ => rfl
  | .exit a, .exit b, h => by rw [Nat.eq_of_beq_eq_true h]
  | .ret, .ret, _ => rfl
  | .normal, .exit _, h => by cases h
  | .normal, .ret, h => by cases h
  | .exit _, .normal, h => by cases h
  | .exit _, .ret, h => by cases h
  | .ret, .normal, h => by cases h
  | .ret, .exit _, h => by cases h
def isBusy : LSt → LSt → Bool
  | .ready, .ready => true
  | .busy, .busy => true
  | .done e, .done e' => eqXE e e'
  | _, _ => false
theorem isBusy_ok : ∀ {st b : LSt}, isBusy st b = true → st = b
  | .ready, .ready, _ => rfl
  | .busy, .busy, _ => rfl
  | .done e, .done e', h => by rw [eqXE_ok h]
  | .ready, .busy, h => by cases h
  | .ready, .done _, h => by cases h
  | .busy, .ready, h => by cases h
  | .busy, .done _, h => by cases h
  | .done _, .ready, h => by cases h
  | .done _, .busy, h => by cases h
def beqB (a b : Bool) : Bool := match a, b with | true, true => true | false, false => true | _, _ => false
theorem beqB_ok {a b : Bool} (h : beqB a b = true) : a = b := by cases a <;> cases b <;> first | rfl | cases h
/-- The template's mark for 'not nil' may be weaker. -/
def nnLe (t b : Bool) : Bool := match t with | true => b | false => true
def matchB : TB → Blk → Option (List PV × List (Code × Code))
  | .dead, _ => some ([], [])
  | .defs, .defs => some ([], [])
  | .raw ty sz, .raw ty' sz' m => match Nat.beq ty ty' && Nat.beq sz sz' with | true => some ([.n m], []) | false => none
  | .ro r, .ro w => withC [] (matchR r w)
  | .glob g r, .glob g' w => match Nat.beq g g' with | true => withC [] (matchR r w) | false => none
  | .rs nn sz r, .rs nn' sz' w => match beqB nn nn' && Nat.beq sz sz' with | true => withC [] (matchR r w) | false => none
  | .own ty r, .own ty' w => match Nat.beq ty ty' with | true => withC [] (matchR r w) | false => none
  | .grow nn ty sz r, .grow nn' ty' sz' w => match nnLe nn nn' && (Nat.beq ty ty' && Nat.beq sz sz') with | true => withC [] (matchR r w) | false => none
  | .lent b0 n0 nn ty sz r, .lent b1 n1 nn' ty' sz' w => match (Nat.beq b0 b1 && Nat.beq n0 n1) && (beqB nn nn' && (Nat.beq ty ty' && Nat.beq sz sz')) with | true => withC [] (matchR r w) | false => none
  | .loopB st0 me tmps ps assign body d, .loopB st me' l ps' assign' body' d' => match isBusy st st0 && (Nat.beq me me' && (eqNs ps ps' && Nat.beq d d')) with
    | true => withC [(assign, assign'), (body, body')] (matchS tmps l)
    | false => none
  | _, _ => none

theorem slotsIn_of {n : Nat} : ∀ {l : List V}, (∀ (i : Nat) v, l[i]? = some v → v = .top ∨ inS n v = true) → slotsIn n l = true
  | [], _ => rfl
  | v :: r, h => by
    simp only [slotsIn, Bool.and_eq_true]
    refine ⟨?_, slotsIn_of fun i u hi => h (i + 1) u (by simpa using hi)⟩
    rcases h 0 v rfl with rfl | h1
    · rfl
    · cases v <;> first | exact h1 | rfl
theorem scopeB_ok {n : Nat} {t : TB} {p : List PV} (h : scopeB n t = true) : blkIn n (instB t p) = true := by
  cases t with
  | dead => rfl
  | defs => rfl
  | raw ty sz => rfl
  | loopB st0 me tmps ps assign body d =>
    simp only [scopeB, Bool.and_eq_true] at h
    simp only [instB, blkIn, Bool.and_eq_true]
    exact ⟨slotsIn_of (scopeS_ok h.1), h.2⟩
  | lent b0 n0 nn ty sz r =>
    simp only [scopeB, Bool.and_eq_true] at h
    simp only [instB, blkIn, Bool.and_eq_true]
    exact ⟨h.1, h.2.1, scopeR_ok h.2.2⟩
  | _ => exact scopeR_ok h

def codesOk (c : List (Code × Code)) : Prop := ∀ x ∈ c, x.1 = x.2
theorem matchB_ok {n : Nat} {t : TB} {b : Blk} {ps : List PV} {c : List (Code × Code)} (h : matchB t b = some (ps, c)) (hc : codesOk c) (hs : scopeB n t = true) : ps.length = takesB t ∧ ∀ r, BlkI n b (instB t (ps ++ r)) := by
  have rowc : ∀ {t : TR} {w : Row}, withC [] (matchR t w) = some (ps, c) → matchR t w = some ps := fun {t w} h => by
    cases hm : matchR t w with
    | none => rw [hm] at h; cases h
    | some q => rw [hm] at h; simp only [withC, Option.some.injEq, Prod.mk.injEq] at h; rw [h.1]
  have hin : ∀ r, blkIn n (instB t (ps ++ r)) = true := fun r => scopeB_ok hs
  cases t with
  | dead => simp only [matchB] at h; cases h; exact ⟨rfl, fun r => .dead _⟩
  | defs => cases b <;> simp only [matchB] at h <;> cases h; exact ⟨rfl, fun r => .same _ rfl⟩
  | raw ty sz =>
    cases b <;> simp only [matchB] at h <;> try cases h
    split at h
    · rename_i hq
      simp only [Bool.and_eq_true] at hq
      have e1 := Nat.eq_of_beq_eq_true hq.1
      have e2 := Nat.eq_of_beq_eq_true hq.2
      subst e1; subst e2
      cases h
      exact ⟨rfl, fun r => .same _ rfl⟩
    · cases h
  | ro t =>
    cases b <;> simp only [matchB] at h <;> try cases h
    obtain ⟨h1, h2⟩ := matchR_ok (rowc h)
    refine ⟨h1, fun r => ?_⟩
    have e : ∀ r, instB (.ro t) (ps ++ r) = .ro _ := fun r => by simp only [instB]; rw [h2]
    have := hin r
    rw [e] at this ⊢
    exact .same _ this
  | glob g t =>
    cases b <;> simp only [matchB] at h <;> try cases h
    split at h
    · rename_i hq
      have := Nat.eq_of_beq_eq_true hq
      subst this
      obtain ⟨h1, h2⟩ := matchR_ok (rowc h)
      refine ⟨h1, fun r => ?_⟩
      have e : ∀ r, instB (.glob g t) (ps ++ r) = .glob g _ := fun r => by simp only [instB]; rw [h2]
      have := hin r
      rw [e] at this ⊢
      exact .same _ this
    · cases h
  | rs nn sz t =>
    cases b <;> simp only [matchB] at h <;> try cases h
    split at h
    · rename_i hq
      simp only [Bool.and_eq_true] at hq
      have e1 := beqB_ok hq.1
      have e2 := Nat.eq_of_beq_eq_true hq.2
      subst e1; subst e2
      obtain ⟨h1, h2⟩ := matchR_ok (rowc h)
      refine ⟨h1, fun r => ?_⟩
      have e : ∀ r, instB (.rs nn sz t) (ps ++ r) = .rs nn sz _ := fun r => by simp only [instB]; rw [h2]
      have := hin r
      rw [e] at this ⊢
      exact .same _ this
    · cases h
  | own ty t =>
    cases b <;> simp only [matchB] at h <;> try cases h
    split at h
    · rename_i hq
      have := Nat.eq_of_beq_eq_true hq
      subst this
      obtain ⟨h1, h2⟩ := matchR_ok (rowc h)
      refine ⟨h1, fun r => ?_⟩
      have e : ∀ r, instB (.own ty t) (ps ++ r) = .own ty _ := fun r => by simp only [instB]; rw [h2]
      have := hin r
      rw [e] at this ⊢
      exact .same _ this
    · cases h
  | grow nn ty sz t =>
    cases b <;> simp only [matchB] at h <;> try cases h
    rename_i nn' ty' sz' row
    split at h
    · rename_i hq
      simp only [Bool.and_eq_true] at hq
      have e1 := Nat.eq_of_beq_eq_true hq.2.1
      have e2 := Nat.eq_of_beq_eq_true hq.2.2
      subst e1; subst e2
      obtain ⟨h1, h2⟩ := matchR_ok (rowc h)
      refine ⟨h1, fun r => ?_⟩
      have e : ∀ r, instB (.grow nn ty sz t) (ps ++ r) = .grow nn ty sz _ := fun r => by simp only [instB]; rw [h2]
      have hi := hin r
      rw [e] at hi ⊢
      cases nn <;> cases nn' <;> first | exact .same _ hi | exact .nil _ _ _ hi | (simp [nnLe] at hq)
    · cases h
  | lent b0 n0 nn ty sz t =>
    cases b <;> simp only [matchB] at h <;> try cases h
    split at h
    · rename_i hq
      simp only [Bool.and_eq_true] at hq
      have e1 := Nat.eq_of_beq_eq_true hq.1.1
      have e2 := Nat.eq_of_beq_eq_true hq.1.2
      have e3 := beqB_ok hq.2.1
      have e4 := Nat.eq_of_beq_eq_true hq.2.2.1
      have e5 := Nat.eq_of_beq_eq_true hq.2.2.2
      subst e1; subst e2; subst e3; subst e4; subst e5
      obtain ⟨h1, h2⟩ := matchR_ok (rowc h)
      refine ⟨h1, fun r => ?_⟩
      have e : ∀ r, instB (.lent b0 n0 nn ty sz t) (ps ++ r) = .lent b0 n0 nn ty sz _ := fun r => by simp only [instB]; rw [h2]
      have := hin r
      rw [e] at this ⊢
      exact .same _ this
    · cases h
  | loopB st0 me tmps qs assign body d =>
    cases b <;> simp only [matchB] at h <;> try cases h
    rename_i st me' l ps' assign' body' d'
    split at h
    · rename_i hq
      simp only [Bool.and_eq_true] at hq
      obtain ⟨q1, q3, q4, q5⟩ := hq
      have e1 := isBusy_ok q1
      have e2 := Nat.eq_of_beq_eq_true q3
      have e3 := eqNs_ok q4
      have e4 := Nat.eq_of_beq_eq_true q5
      subst e1; subst e2; subst e3; subst e4
      cases hm : matchS tmps l with
      | none => rw [hm] at h; cases h
      | some w =>
        rw [hm] at h
        simp only [withC, Option.some.injEq, Prod.mk.injEq] at h
        obtain ⟨rfl, rfl⟩ := h
        have c1 : assign = assign' := hc (assign, assign') (by simp)
        have c2 : body = body' := hc (body, body') (by simp)
        subst c1; subst c2
        refine ⟨(matchS_ok hm).1, fun r => ?_⟩
        have := hin r
        simp only [instB, blkIn, Bool.and_eq_true, Nat.blt_eq] at this ⊢
        obtain ⟨k1, k2⟩ := (matchS_ok hm).2 r
        exact .less _ _ _ _ _ _ _ _ this.1 this.2 k1 k2
    · cases h

def takesH : List TB → Nat
  | [] => 0
  | t :: r => takesB t + takesH r
def instH : List TB → List PV → List Blk
  | [], _ => []
  | t :: r, p => instB t p :: instH r (dropP (takesB t) p)
def scopeH (n : Nat) : List TB → Bool
  | [] => true
  | t :: r => scopeB n t && scopeH n r
def consPC (a : List PV × List (Code × Code)) : Option (List PV × List (Code × Code)) → Option (List PV × List (Code × Code))
  | some b => some (a.1 ++ b.1, a.2 ++ b.2)
  | none => none
/-- The blocks behind the template's are let go. -/
def matchH : List TB → List Blk → Option (List PV × List (Code × Code))
  | [], _ => some ([], [])
  | t :: r, b :: q => match matchB t b with
    | some a => consPC a (matchH r q)
    | none => none
  | _ :: _, [] => none
theorem instH_len : ∀ {t : List TB} {p : List PV}, (instH t p).length = t.length
  | [], _ => rfl
  | _ :: r, p => by simp only [instH, List.length_cons, instH_len (t := r)]
theorem matchH_ok {n : Nat} : ∀ {t : List TB} {h : List Blk} {ps : List PV} {c : List (Code × Code)}, matchH t h = some (ps, c) → codesOk c → scopeH n t = true →
    t.length ≤ h.length ∧ ∀ r (b : Nat) blk2, (instH t (ps ++ r))[b]? = some blk2 → ∃ blk, h[b]? = some blk ∧ BlkI n blk blk2
  | [], h, ps, c, _, _, _ => ⟨Nat.zero_le _, fun r b blk2 hb => by simp [instH] at hb⟩
  | _ :: _, [], ps, c, hm, _, _ => by simp only [matchH] at hm; cases hm
  | t :: r, b :: q, ps, c, hm, hc, hs => by
    simp only [matchH] at hm
    simp only [scopeH, Bool.and_eq_true] at hs
    split at hm
    · rename_i a ha
      obtain ⟨pa, ca⟩ := a
      cases hb : matchH r q with
      | none => rw [hb] at hm; cases hm
      | some w =>
        obtain ⟨pw, cw⟩ := w
        rw [hb] at hm
        simp only [consPC, Option.some.injEq, Prod.mk.injEq] at hm
        obtain ⟨rfl, rfl⟩ := hm
        obtain ⟨h1, h2⟩ := matchB_ok ha (fun x hx => hc x (by simp [hx])) hs.1
        obtain ⟨h3, h4⟩ := matchH_ok hb (fun x hx => hc x (by simp [hx])) hs.2
        refine ⟨by simp only [List.length_cons]; omega, fun r' i blk2 hi => ?_⟩
        simp only [instH, List.append_assoc] at hi
        cases i with
        | zero =>
          simp only [List.getElem?_cons_zero, Option.some.injEq] at hi
          subst hi
          exact ⟨b, rfl, h2 _⟩
        | succ i =>
          simp only [List.getElem?_cons_succ] at hi ⊢
          rw [← h1, dropP_append] at hi
          exact h4 r' i blk2 hi
    · cases hm

structure Tm where
  slots : TS
  blks : List TB
  marks : List Nat
def Tm.at (T : Tm) (p : List PV) : AS := ⟨instS T.slots p, instH T.blks (dropP (takesS T.slots) p), T.marks⟩
def Tm.ok (T : Tm) : Bool := (scopeS T.blks.length T.slots && scopeH T.blks.length T.blks) && T.marks.all (Nat.blt · T.blks.length)
def Tm.match (T : Tm) (s : AS) : Option (List PV × List (Code × Code)) := match eqNs T.marks s.marks with
  | true => match matchS T.slots s.tmps with
    | some a => consPC (a, []) (matchH T.blks s.heap)
    | none => none
  | false => none
theorem Tm.match_ok {T : Tm} {s : AS} {ps : List PV} {c : List (Code × Code)} (hm : T.match s = some (ps, c)) (hc : codesOk c) (hk : T.ok = true) : SubI s (T.at ps) := by
  unfold Tm.match at hm
  simp only [Tm.ok, Bool.and_eq_true, List.all_eq_true] at hk
  obtain ⟨⟨k1, k2⟩, k3⟩ := hk
  split at hm
  · rename_i he
    split at hm
    · rename_i a ha
      cases hb : matchH T.blks s.heap with
      | none => rw [hb] at hm; cases hm
      | some w =>
        obtain ⟨pw, cw⟩ := w
        rw [hb] at hm
        simp only [consPC, Option.some.injEq, Prod.mk.injEq, List.nil_append] at hm
        obtain ⟨rfl, rfl⟩ := hm
        obtain ⟨h1, h2⟩ := matchS_ok ha
        obtain ⟨h3, h4⟩ := matchH_ok hb hc k2
        have hd : dropP (takesS T.slots) (a ++ pw) = pw := by rw [← h1, dropP_append]
        have hlen : (T.at (a ++ pw)).heap.length = T.blks.length := instH_len
        refine ⟨(h2 pw).1, fun i v hi => ?_, by rw [hlen]; exact h3, fun b blk2 hb' => ?_, eqNs_ok he, fun b hb' => ?_⟩
        · rw [hlen]
          rcases (h2 pw).2 i v hi with h5 | h5
          · exact .inl h5
          · rcases scopeS_ok k1 i v hi with h6 | h6
            · exact .inl h6
            · exact .inr ⟨h5, h6⟩
        · rw [hlen]
          simp only [Tm.at, hd] at hb'
          have := h4 [] b blk2
          rw [List.append_nil] at this
          exact this hb'
        · rw [hlen]
          have := k3 b hb'
          simpa using this
    · cases hm
  · cases hm
theorem Tm.at_len (T : Tm) (p : List PV) : (T.at p).heap.length = T.blks.length := instH_len
theorem instH_in {n : Nat} : ∀ {t : List TB} {p : List PV}, scopeH n t = true → ∀ (b : Nat) blk, (instH t p)[b]? = some blk → blkIn n blk = true
  | [], _, _, b, blk, h => by simp [instH] at h
  | t :: r, p, hs, 0, blk, h => by
    simp only [scopeH, Bool.and_eq_true] at hs
    simp only [instH, List.getElem?_cons_zero, Option.some.injEq] at h
    subst h; exact scopeB_ok hs.1
  | t :: r, p, hs, b + 1, blk, h => by
    simp only [scopeH, Bool.and_eq_true] at hs
    simp only [instH, List.getElem?_cons_succ] at h
    exact instH_in hs.2 b blk h
theorem Tm.at_in {T : Tm} {p : List PV} (hk : T.ok = true) (b : Nat) (blk : Blk) (h : (T.at p).heap[b]? = some blk) : blkIn T.blks.length blk = true := by
  simp only [Tm.ok, Bool.and_eq_true] at hk
  exact instH_in hk.1.2 b blk h
end Go.Eng

/- ENGINE, PART 13b: a nil slice that a template takes for a slice of ours. -/
namespace Go.Eng
open Go

/-- From n on all blocks are nil slices. -/
def Env.gh (E : Env) (n : Nat) : Env :=
  ⟨E.blk, fun b => if b < n then E.delta b else 0, fun b => if b < n then E.len b else 0, fun b => if b < n then E.cap b else 0, fun b => if b < n then E.isnil b else true, fun b => if b < n then E.base b else none⟩
theorem Agree.gh (E : Env) (n : Nat) : Agree n E (E.gh n) :=
  ⟨fun _ _ => rfl, fun b hb => by simp [Env.gh, hb], fun b hb => by simp [Env.gh, hb], fun b hb => by simp [Env.gh, hb], fun b hb => by simp [Env.gh, hb], fun b hb => by simp [Env.gh, hb]⟩

/-- The empty slice of a template's block. -/
def emptyR : TR → Row
  | .vs _ => .vs []
  | .ints k => .ints k []
  | .strs => .strs []
theorem emptyR_len (r : TR) : (emptyR r).toVs = [] := by cases r <;> rfl
def ghB : TB → Option Blk
  | .grow false ty sz r => match Nat.blt 0 sz with
    | true => some (.grow false ty sz (emptyR r))
    | false => none
  | _ => none
def nthB : List TB → Nat → TB
  | [], _ => .dead
  | b :: _, 0 => b
  | _ :: r, n + 1 => nthB r n
inductive IsGh : Blk → Prop
  | mk (ty : TypeId) (sz : Nat) (row : Row) : row.toVs = [] → 0 < sz → IsGh (.grow false ty sz row)
theorem ghB_ok {t : TB} {b : Blk} (h : ghB t = some b) : IsGh b := by
  unfold ghB at h
  split at h
  · split at h
    · rename_i hz
      cases h
      exact .mk _ _ _ (emptyR_len _) (by simpa using hz)
    · cases h
  · cases h

mutual
def ghV (bl : List TB) (n : Nat) : TV → V → List Blk → V × List Blk
  | .gs b, v, h => match isNilV v with
    | true => match ghB (nthB bl b) with
      | some blk => (.gs (n + h.length), h ++ [blk])
      | none => (v, h)
    | false => (v, h)
  | .agg ts, .agg vs, h => (.agg (ghVs bl n ts vs h).1, (ghVs bl n ts vs h).2)
  | .tuple ts, .tuple vs, h => (.tuple (ghVs bl n ts vs h).1, (ghVs bl n ts vs h).2)
  | _, v, h => (v, h)
def ghVs (bl : List TB) (n : Nat) : List TV → List V → List Blk → List V × List Blk
  | t :: ts, v :: vs, h => ((ghV bl n t v h).1 :: (ghVs bl n ts vs (ghV bl n t v h).2).1, (ghVs bl n ts vs (ghV bl n t v h).2).2)
  | _, vs, h => (vs, h)
end
def ghS (bl : List TB) (n : Nat) : TS → List V → List Blk → List V × List Blk
  | none :: ts, v :: vs, h => (v :: (ghS bl n ts vs h).1, (ghS bl n ts vs h).2)
  | some t :: ts, v :: vs, h => ((ghV bl n t v h).1 :: (ghS bl n ts vs (ghV bl n t v h).2).1, (ghS bl n ts vs (ghV bl n t v h).2).2)
  | _, vs, h => (vs, h)

/-- What is put behind: all are empty. -/
def AllGh (h : List Blk) : Prop := ∀ b ∈ h, IsGh b
theorem AllGh.snoc {h : List Blk} {b : Blk} (hh : AllGh h) (hb : IsGh b) : AllGh (h ++ [b]) := by
  intro x hx
  rcases List.mem_append.1 hx with h1 | h1
  · exact hh x h1
  · rw [List.mem_singleton] at h1; subst h1; exact hb
theorem conc_gh (E : Env) {n b : Nat} (hb : n ≤ b) : conc (E.gh n) (.gs b) = .slice none 0 0 := by
  have : ¬ b < n := by omega
  simp [conc, Env.gh, this]
/-- A value, and the same one with nil slices taken for blocks from n on. -/
def SameV (n m : Nat) (v v' : V) : Prop := (v = .top → v' = .top) ∧ ∀ E, inS n v = true → inS m v' = true ∧ conc (E.gh n) v' = conc E v
theorem SameV.id {n m : Nat} (v : V) (hm : n ≤ m) : SameV n m v v := ⟨fun h => h, fun E h => ⟨inS_mono hm v h, conc_agree (Agree.gh E n) v h⟩⟩
theorem SameV.mono {n m m' : Nat} {v v' : V} (h : SameV n m v v') (hm : m ≤ m') : SameV n m' v v' := ⟨h.1, fun E hv => ⟨inS_mono hm _ (h.2 E hv).1, (h.2 E hv).2⟩⟩
def SameVs (n m : Nat) : List V → List V → Prop
  | [], [] => True
  | v :: l, v' :: l' => SameV n m v v' ∧ SameVs n m l l'
  | _, _ => False
theorem SameVs.id {n m : Nat} (hm : n ≤ m) : ∀ l : List V, SameVs n m l l
  | [] => trivial
  | v :: l => ⟨SameV.id v hm, SameVs.id hm l⟩
theorem SameVs.to {n m : Nat} : ∀ {l l' : List V}, SameVs n m l l' → ∀ E, inSs n l = true → inSs m l' = true ∧ concs (E.gh n) l' = concs E l
  | [], [], _, _, _ => ⟨rfl, rfl⟩
  | v :: l, v' :: l', h, E, hs => by
    simp only [inSs, Bool.and_eq_true] at hs
    obtain ⟨h1, h2⟩ := h.1.2 E hs.1
    obtain ⟨h3, h4⟩ := SameVs.to h.2 E hs.2
    exact ⟨by simp only [inSs, h1, h3, Bool.and_self], by simp only [concs, h2, h4]⟩
  | [], _ :: _, h, _, _ => h.elim
  | _ :: _, [], h, _, _ => h.elim

mutual
theorem ghV_ok (bl : List TB) (n : Nat) : ∀ (t : TV) (v : V) (h : List Blk), AllGh h → AllGh (ghV bl n t v h).2 ∧ h.length ≤ (ghV bl n t v h).2.length ∧ ∀ m, n + (ghV bl n t v h).2.length ≤ m → SameV n m v (ghV bl n t v h).1
  | .gs b, v, h, hh => by
    simp only [ghV]
    split
    · rename_i hn
      split
      · rename_i blk hb
        refine ⟨hh.snoc (ghB_ok hb), by simp, fun m hm => ?_⟩
        rw [isNilV_ok hn]
        refine ⟨fun h => (by cases h), fun E _ => ⟨?_, conc_gh E (by omega)⟩⟩
        simp only [List.length_append, List.length_cons, List.length_nil] at hm
        simp only [inS, Nat.blt_eq]
        omega
      · exact ⟨hh, Nat.le_refl _, fun m hm => SameV.id v (by simp only at hm; omega)⟩
    · exact ⟨hh, Nat.le_refl _, fun m hm => SameV.id v (by simp only at hm; omega)⟩
  | .agg ts, v, h, hh => by
    cases v
    case agg vs =>
      obtain ⟨h1, h2, h3⟩ := ghVs_ok bl n ts vs h hh
      refine ⟨by simpa only [ghV] using h1, by simpa only [ghV] using h2, fun m hm => ⟨fun h => (by cases h), fun E hs => ?_⟩⟩
      simp only [ghV] at hm ⊢
      simp only [inS] at hs
      obtain ⟨h4, h5⟩ := (h3 m hm).to E hs
      exact ⟨by simp only [inS, h4], by simp only [conc, h5]⟩
    all_goals exact ⟨by simpa only [ghV] using hh, by simp only [ghV]; exact Nat.le_refl _, fun m hm => by simp only [ghV] at hm ⊢; exact SameV.id _ (by omega)⟩
  | .tuple ts, v, h, hh => by
    cases v
    case tuple vs =>
      obtain ⟨h1, h2, h3⟩ := ghVs_ok bl n ts vs h hh
      refine ⟨by simpa only [ghV] using h1, by simpa only [ghV] using h2, fun m hm => ⟨fun h => (by cases h), fun E hs => ?_⟩⟩
      simp only [ghV] at hm ⊢
      simp only [inS] at hs
      obtain ⟨h4, h5⟩ := (h3 m hm).to E hs
      exact ⟨by simp only [inS, h4], by simp only [conc, h5]⟩
    all_goals exact ⟨by simpa only [ghV] using hh, by simp only [ghV]; exact Nat.le_refl _, fun m hm => by simp only [ghV] at hm ⊢; exact SameV.id _ (by omega)⟩
  | .int _, v, h, hh | .bool, v, h, hh | .str, v, h, hh | .nil, v, h, hh | .lit _ _, v, h, hh | .ptr _ _, v, h, hh | .glob _ _, v, h, hh | .view _ _, v, h, hh | .yield _, v, h, hh | .func _ _, v, h, hh =>
    ⟨by simpa only [ghV] using hh, by simp only [ghV]; exact Nat.le_refl _, fun m hm => by simp only [ghV] at hm ⊢; exact SameV.id _ (by omega)⟩
theorem ghVs_ok (bl : List TB) (n : Nat) : ∀ (ts : List TV) (vs : List V) (h : List Blk), AllGh h → AllGh (ghVs bl n ts vs h).2 ∧ h.length ≤ (ghVs bl n ts vs h).2.length ∧ ∀ m, n + (ghVs bl n ts vs h).2.length ≤ m → SameVs n m vs (ghVs bl n ts vs h).1
  | [], vs, h, hh => ⟨by simpa only [ghVs] using hh, by simp only [ghVs]; exact Nat.le_refl _, fun m hm => by simp only [ghVs] at hm ⊢; exact SameVs.id (by omega) _⟩
  | t :: ts, [], h, hh => ⟨by simpa only [ghVs] using hh, by simp only [ghVs]; exact Nat.le_refl _, fun m hm => by simp only [ghVs] at hm ⊢; exact SameVs.id (by omega) _⟩
  | t :: ts, v :: vs, h, hh => by
    obtain ⟨h1, h2, h3⟩ := ghV_ok bl n t v h hh
    obtain ⟨h4, h5, h6⟩ := ghVs_ok bl n ts vs _ h1
    simp only [ghVs]
    exact ⟨h4, Nat.le_trans h2 h5, fun m hm => ⟨h3 m (by omega), h6 m hm⟩⟩
end
theorem ghS_ok (bl : List TB) (n : Nat) : ∀ (ts : TS) (vs : List V) (h : List Blk), AllGh h → AllGh (ghS bl n ts vs h).2 ∧ h.length ≤ (ghS bl n ts vs h).2.length ∧ ∀ m, n + (ghS bl n ts vs h).2.length ≤ m → SameVs n m vs (ghS bl n ts vs h).1
  | [], vs, h, hh => ⟨by simpa only [ghS] using hh, by simp only [ghS]; exact Nat.le_refl _, fun m hm => by simp only [ghS] at hm ⊢; exact SameVs.id (by omega) _⟩
  | none :: ts, [], h, hh => ⟨by simpa only [ghS] using hh, by simp only [ghS]; exact Nat.le_refl _, fun m hm => by simp only [ghS] at hm ⊢; exact SameVs.id (by omega) _⟩
  | some t :: ts, [], h, hh => ⟨by simpa only [ghS] using hh, by simp only [ghS]; exact Nat.le_refl _, fun m hm => by simp only [ghS] at hm ⊢; exact SameVs.id (by omega) _⟩
  | none :: ts, v :: vs, h, hh => by
    obtain ⟨h4, h5, h6⟩ := ghS_ok bl n ts vs h hh
    simp only [ghS]
    exact ⟨h4, h5, fun m hm => ⟨SameV.id v (by omega), h6 m hm⟩⟩
  | some t :: ts, v :: vs, h, hh => by
    obtain ⟨h1, h2, h3⟩ := ghV_ok bl n t v h hh
    obtain ⟨h4, h5, h6⟩ := ghS_ok bl n ts vs _ h1
    simp only [ghS]
    exact ⟨h4, Nat.le_trans h2 h5, fun m hm => ⟨h3 m (by omega), h6 m hm⟩⟩

theorem SameVs.get {n m : Nat} : ∀ {l l' : List V}, SameVs n m l l' → l'.length = l.length ∧ ∀ (i : Nat) v', l'[i]? = some v' → ∃ v, l[i]? = some v ∧ SameV n m v v'
  | [], [], _ => ⟨rfl, fun i v' h => by simp at h⟩
  | v :: l, w :: l', h => by
    obtain ⟨h1, h2⟩ := SameVs.get h.2
    refine ⟨by simp [h1], fun i v' hi => ?_⟩
    cases i with
    | zero => simp at hi; subst hi; exact ⟨v, by simp, h.1⟩
    | succ i => simpa using h2 i v' (by simpa using hi)
  | [], _ :: _, h => h.elim
  | _ :: _, [], h => h.elim

/-- Nil slices in a variable that a slot points to: at most once for each variable. -/
def ghQ (bl : List TB) (n : Nat) (b' : Nat) (dn : List Nat) (hp g : List Blk) : TB → Blk → List Nat × List Blk × List Blk
  | .own _ (.vs tl), .own ty (.vs l) => (b' :: dn, setB hp b' (.own ty (.vs (ghVs bl n tl l g).1)), (ghVs bl n tl l g).2)
  | _, _ => (dn, hp, g)
def ghP1 (bl : List TB) (n : Nat) (dn : List Nat) (hp g : List Blk) : Option TV → V → List Nat × List Blk × List Blk
  | some (.ptr b _), .ptr b' _ => match dn.contains b' with
    | true => (dn, hp, g)
    | false => ghQ bl n b' dn hp g (nthB bl b) (getB hp b')
  | _, _ => (dn, hp, g)
def ghP (bl : List TB) (n : Nat) : TS → List V → List Nat × List Blk × List Blk → List Blk × List Blk
  | t :: ts, v :: vs, s => ghP bl n ts vs (ghP1 bl n s.1 s.2.1 s.2.2 t v)
  | _, _, s => s.2
inductive SameB (n m : Nat) : Blk → Blk → Prop
  | refl (x : Blk) : SameB n m x x
  | own (ty : TypeId) (l l' : List V) : SameVs n m l l' → SameB n m (.own ty (.vs l)) (.own ty (.vs l'))
theorem SameVs.mono {n m m' : Nat} (hm : m ≤ m') : ∀ {l l' : List V}, SameVs n m l l' → SameVs n m' l l'
  | [], [], _ => trivial
  | _ :: _, _ :: _, h => ⟨h.1.mono hm, SameVs.mono hm h.2⟩
  | [], _ :: _, h => h.elim
  | _ :: _, [], h => h.elim
theorem SameB.mono {n m m' : Nat} (hm : m ≤ m') {x y : Blk} (h : SameB n m x y) : SameB n m' x y := by
  cases h with
  | refl => exact .refl _
  | own ty l l' h => exact .own _ _ _ (h.mono hm)
/-- How a heap in which nil slices are blocks stands to the old one. -/
structure GhH (n m : Nat) (dn : List Nat) (h0 hp : List Blk) : Prop where
  len : hp.length = h0.length
  old : ∀ i, i ∉ dn → hp[i]? = h0[i]?
  same : ∀ (i : Nat) x', hp[i]? = some x' → ∃ x, h0[i]? = some x ∧ SameB n m x x'
theorem GhH.mono {n m m' : Nat} (hm : m ≤ m') {dn : List Nat} {h0 hp : List Blk} (h : GhH n m dn h0 hp) : GhH n m' dn h0 hp :=
  ⟨h.len, h.old, fun i x' hx => by obtain ⟨x, h1, h2⟩ := h.same i x' hx; exact ⟨x, h1, h2.mono hm⟩⟩
theorem ghP1_ok (bl : List TB) (n : Nat) (h0 : List Blk) {dn : List Nat} {hp g : List Blk} (hg : AllGh g) (hh : GhH n (n + g.length) dn h0 hp) (t : Option TV) (v : V) :
    AllGh (ghP1 bl n dn hp g t v).2.2 ∧ g.length ≤ (ghP1 bl n dn hp g t v).2.2.length ∧ GhH n (n + (ghP1 bl n dn hp g t v).2.2.length) (ghP1 bl n dn hp g t v).1 h0 (ghP1 bl n dn hp g t v).2.1 := by
  unfold ghP1
  split
  · rename_i b _ b' _
    split
    · exact ⟨hg, Nat.le_refl _, hh⟩
    · rename_i hdn
      generalize hB : getB hp b' = B
      generalize nthB bl b = T
      unfold ghQ
      split
      · rename_i _ tl ty l
        obtain ⟨k1, k2, k3⟩ := ghVs_ok bl n tl l g hg
        have hb' := getB_some hB (by simp)
        have hnd : b' ∉ dn := by
          intro hm
          have : dn.contains b' = true := List.contains_iff_mem.2 hm
          rw [hdn] at this; cases this
        have hlt := getElem?_lt hb'
        refine ⟨k1, k2, ?_⟩
        have hm := hh.mono (m' := n + (ghVs bl n tl l g).2.length) (by omega)
        refine ⟨by simp only [setB_len]; exact hh.len, fun i hi => ?_, fun i x' hx => ?_⟩
        · have hi2 : i ≠ b' := fun e => hi (by rw [e]; exact List.mem_cons_self ..)
          simp only [setB_eq]
          rw [List.getElem?_set_ne (Ne.symm hi2)]
          exact hh.old i fun hm => hi (List.mem_cons_of_mem _ hm)
        · simp only [setB_eq] at hx
          by_cases hi : i = b'
          · subst hi
            rw [List.getElem?_set_self hlt] at hx
            cases hx
            rw [hh.old _ hnd] at hb'
            exact ⟨_, hb', .own _ _ _ (k3 _ (Nat.le_refl _))⟩
          · rw [List.getElem?_set_ne (Ne.symm hi)] at hx
            exact hm.same i x' hx
      · exact ⟨hg, Nat.le_refl _, hh⟩
  · exact ⟨hg, Nat.le_refl _, hh⟩
theorem ghP_ok (bl : List TB) (n : Nat) (h0 : List Blk) : ∀ (ts : TS) (vs : List V) (dn : List Nat) (hp g : List Blk), AllGh g → GhH n (n + g.length) dn h0 hp →
    AllGh (ghP bl n ts vs (dn, hp, g)).2 ∧ g.length ≤ (ghP bl n ts vs (dn, hp, g)).2.length ∧ ∃ dn', GhH n (n + (ghP bl n ts vs (dn, hp, g)).2.length) dn' h0 (ghP bl n ts vs (dn, hp, g)).1
  | [], _, dn, hp, g, hg, hh => ⟨hg, Nat.le_refl _, dn, hh⟩
  | _ :: _, [], dn, hp, g, hg, hh => ⟨hg, Nat.le_refl _, dn, hh⟩
  | t :: ts, v :: vs, dn, hp, g, hg, hh => by
    obtain ⟨q1, q2, q3⟩ := ghP1_ok bl n h0 hg hh t v
    obtain ⟨r1, r2, r3⟩ := ghP_ok bl n h0 ts vs _ _ _ q1 q3
    exact ⟨r1, Nat.le_trans q2 r2, r3⟩
/-- The state in which a template's nil slices are blocks. -/
def ghA (T : Tm) (s : AS) : List Blk × List Blk := ghP T.blks s.heap.length T.slots s.tmps ([], s.heap, (ghS T.blks s.heap.length T.slots s.tmps []).2)
def AS.ghost (T : Tm) (s : AS) : AS := match (ghA T s).2 with
  | [] => s
  | b :: r => ⟨(ghS T.blks s.heap.length T.slots s.tmps []).1, (ghA T s).1 ++ b :: r, s.marks⟩
theorem ghA_ok (T : Tm) (s : AS) : AllGh (ghA T s).2 ∧ (∃ dn, GhH s.heap.length (s.heap.length + (ghA T s).2.length) dn s.heap (ghA T s).1) ∧ SameVs s.heap.length (s.heap.length + (ghA T s).2.length) s.tmps (ghS T.blks s.heap.length T.slots s.tmps []).1 := by
  obtain ⟨k1, _, k3⟩ := ghS_ok T.blks s.heap.length T.slots s.tmps [] (fun _ hx => by cases hx)
  obtain ⟨q1, q2, q3⟩ := ghP_ok T.blks s.heap.length s.heap T.slots s.tmps [] s.heap _ k1 ⟨rfl, fun _ _ => rfl, fun i x' hx => ⟨x', hx, .refl _⟩⟩
  exact ⟨q1, q3, k3 _ (by unfold ghA; omega)⟩

theorem gh_live {E : Env} {n b : Nat} {blk : Blk} (hg : IsGh blk) (hb : n ≤ b) : liveAt (E.gh n) b blk = false := by
  cases hg
  have : ¬ b < n := by omega
  simp [liveAt, Env.gh, this]
theorem gh_blk {E : Env} {n m b : Nat} {W : World} {blk : Blk} (hg : IsGh blk) (hb : n ≤ b) : BlkOk (E.gh n) m W b blk := by
  cases hg with
  | mk ty sz row h hz =>
    have hn : ¬ b < n := by omega
    have hl : row.len = 0 := by rw [Row.len_eq, h]; rfl
    refine ⟨by simp [Env.gh, hn], by rw [h]; rfl, hz, by simp [Env.gh, hn, hl], by simp [Env.gh, hn], fun _ => ⟨hl, rfl⟩, fun hx => ?_⟩
    simp [Env.gh, hn] at hx
theorem getElem?_app {α : Type} {l r : List α} {i : Nat} {x : α} (h : (l ++ r)[i]? = some x) : (i < l.length ∧ l[i]? = some x) ∨ (l.length ≤ i ∧ x ∈ r) := by
  rcases Nat.lt_or_ge i l.length with hl | hl
  · rw [List.getElem?_append_left hl] at h; exact .inl ⟨hl, h⟩
  · rw [List.getElem?_append_right hl] at h; exact .inr ⟨hl, List.mem_of_getElem? h⟩
theorem SameB.ok {E : Env} {n m b : Nat} {W : World} {x x' : Blk} (h : SameB n m x x') (hb : b < n) (hnm : n ≤ m) (hk : BlkOk E n W b x) : BlkOk (E.gh n) m W b x' ∧ x'.mine = x.mine ∧ liveAt (E.gh n) b x' = liveAt E b x := by
  cases h with
  | refl => exact ⟨hk.frame hb (Agree.gh E _) hnm (fun _ h => h), rfl, liveAt_agree (Agree.gh E _) hb _⟩
  | own ty l l' h =>
    obtain ⟨h1, h2, fz, h3, h4⟩ := hk
    obtain ⟨q1, q2⟩ := h.to E h2
    have hl : l'.length = l.length := by
      have := congrArg List.length q2
      simpa [concs_eq] using this
    exact ⟨⟨by rw [(Agree.gh E n).delta b hb]; exact h1, q1, fz, by rw [show (Row.vs l').len = (Row.vs l).len from hl]; exact h3, by rw [(Agree.gh E n).blk b hb]; show W.heap[E.blk b]? = some (.cells (concs (E.gh n) l').toArray ty fz); rw [q2]; exact h4⟩, rfl, rfl⟩
theorem gh_holds2 {E : Env} {h hp g : List Blk} {W : World} {dn : List Nat} (hh : Holds E h W) (hg : AllGh g) (hs : GhH h.length (h.length + g.length) dn h hp) : Holds (E.gh h.length) (hp ++ g) W := by
  have hlen : (hp ++ g).length = h.length + g.length := by rw [List.length_append, hs.len]
  have old : ∀ {b : Nat} {x' : Blk}, hp[b]? = some x' → b < h.length ∧ ∃ x, h[b]? = some x ∧ BlkOk (E.gh h.length) (hp ++ g).length W b x' ∧ x'.mine = x.mine ∧ liveAt (E.gh h.length) b x' = liveAt E b x := fun {b x'} hb => by
    obtain ⟨x, h1, h2⟩ := hs.same b x' hb
    have hlt := getElem?_lt h1
    obtain ⟨q1, q2, q3⟩ := h2.ok hlt (by omega) (hh.ok b x h1)
    exact ⟨hlt, x, h1, by rw [hlen]; exact q1, q2, q3⟩
  refine ⟨fun b blk hb => ?_, fun b b' x x' hb hb' hm hl hl' he => ?_⟩
  · rcases getElem?_app hb with ⟨h1, h2⟩ | ⟨h1, h2⟩
    · obtain ⟨_, _, _, q, _⟩ := old h2
      exact q
    · exact gh_blk (hg _ h2) (by rw [← hs.len]; exact h1)
  · rcases getElem?_app hb with ⟨h1, h2⟩ | ⟨h1, h2⟩
    · rcases getElem?_app hb' with ⟨h1', h2'⟩ | ⟨h1', h2'⟩
      · obtain ⟨_, y, r1, _, r3, r4⟩ := old h2
        obtain ⟨_, y', r1', _, r3', r4'⟩ := old h2'
        rw [r3] at hm; rw [r4] at hl; rw [r4'] at hl'
        exact hh.inj b b' y y' r1 r1' hm hl hl' he
      · rw [gh_live (hg _ h2') (by rw [← hs.len]; exact h1')] at hl'; cases hl'
    · rw [gh_live (hg _ h2) (by rw [← hs.len]; exact h1)] at hl; cases hl
theorem gh_mine2 {E : Env} {h hp g : List Blk} {k : Nat} {dn : List Nat} (hg : AllGh g) (hs : GhH h.length (h.length + g.length) dn h hp) (hm : Mine (E.gh h.length) (hp ++ g) k) : Mine E h k := by
  obtain ⟨b, x, hb, h1, h2, h3⟩ := hm
  rcases getElem?_app hb with ⟨q1, q2⟩ | ⟨q1, q2⟩
  · obtain ⟨y, r1, r2⟩ := hs.same b x q2
    have hlt := getElem?_lt r1
    cases r2 with
    | refl => rw [liveAt_agree (Agree.gh E _) hlt] at h2; exact ⟨b, x, r1, h1, h2, h3⟩
    | own ty l l' h => exact ⟨b, _, r1, rfl, rfl, h3⟩
  · rw [gh_live (hg _ q2) (by rw [← hs.len]; exact q1)] at h2; cases h2
theorem gh_holds {E : Env} {h g : List Blk} {W : World} (hh : Holds E h W) (hg : AllGh g) : Holds (E.gh h.length) (h ++ g) W := gh_holds2 (dn := []) hh hg ⟨rfl, fun _ _ => rfl, fun _ x' hx => ⟨x', hx, .refl _⟩⟩
theorem gh_mine {E : Env} {h g : List Blk} {k : Nat} (hg : AllGh g) (hm : Mine (E.gh h.length) (h ++ g) k) : Mine E h k := gh_mine2 (dn := []) hg ⟨rfl, fun _ _ => rfl, fun _ x' hx => ⟨x', hx, .refl _⟩⟩ hm
theorem SimC.ghost {P : Program} {n0 : Nat} {rd : Option Nat} {c : Code} {s s' : AS} {e : XE} {T : Tm} (h : SimC P n0 rd c (s.ghost T) e s') : SimC P n0 rd c s e s' := by
  unfold AS.ghost at h
  obtain ⟨k1, ⟨dn, k2⟩, k4⟩ := ghA_ok T s
  split at h
  · exact h
  · rename_i b r hbr
    intro ro E a W hst hro hn
    rw [hbr] at k1 k2 k4
    obtain ⟨k5, k6⟩ := k4.get
    have hlen : ((ghA T s).1 ++ b :: r).length = s.heap.length + (b :: r).length := by rw [List.length_append, k2.len]
    have hst' : StOk (E.gh s.heap.length) ⟨(ghS T.blks s.heap.length T.slots s.tmps []).1, (ghA T s).1 ++ b :: r, s.marks⟩ a W := by
      refine ⟨by rw [k5]; exact hst.size, fun i v hi => ?_, ?_, fun x hx => ?_, gh_holds2 hst.heap k1 k2⟩
      · obtain ⟨u, hu, hs⟩ := k6 i v hi
        obtain ⟨x, hx, hv⟩ := hst.slots i u hu
        refine ⟨x, hx, ?_⟩
        rcases hv with rfl | ⟨h1, h2⟩
        · exact .inl (hs.1 rfl)
        · obtain ⟨h3, h4⟩ := hs.2 E h1
          exact .inr ⟨by show inS ((ghA T s).1 ++ b :: r).length v = true; rw [hlen]; exact h3, by rw [h2, h4]⟩
      · rw [marksOf_agree (Agree.gh E _) hst.scope]; exact hst.defers
      · have := hst.scope x hx; show x < ((ghA T s).1 ++ b :: r).length; rw [hlen]; omega
    refine wpIn_mono (h ro _ a W hst' (hro.agree ((Agree.gh E _).mono hn) (Nat.le_refl _)) (by show n0 ≤ ((ghA T s).1 ++ b :: r).length; rw [hlen]; omega)) ?_
    rintro e' a' W' ⟨rfl, E', h1, h2⟩
    exact ⟨rfl, E', h1, ⟨((Agree.gh E _).mono hn).trans h2.agree (Nat.le_refl _), h2.len, fun k hk => (h2.mine k hk).imp (gh_mine2 k1 k2) id, fun k hk hk' => h2.frame k hk (fun hm => hk' (gh_mine2 k1 k2 hm)), h2.size, h2.os, h2.tape, h2.output⟩⟩
/-- The other way: a state in which nil slices are blocks says no more. -/
theorem SimC.ghost_post {P : Program} {n0 : Nat} {rd : Option Nat} {c : Code} {s s' : AS} {e : XE} {T : Tm} (h : SimC P n0 rd c s e s') : SimC P n0 rd c s e (s'.ghost T) := by
  unfold AS.ghost
  obtain ⟨k1, ⟨dn, k2⟩, k4⟩ := ghA_ok T s'
  split
  · exact h
  · rename_i b r hbr
    rw [hbr] at k1 k2 k4
    obtain ⟨k5, k6⟩ := k4.get
    have hlen : ((ghA T s').1 ++ b :: r).length = s'.heap.length + (b :: r).length := by rw [List.length_append, k2.len]
    intro ro E0 a0 W0 hst0 hro hn0
    refine wpIn_mono (h ro _ a0 W0 hst0 hro hn0) ?_
    rintro e' a W ⟨rfl, E, hst, h2⟩
    have hst' : StOk (E.gh s'.heap.length) ⟨(ghS T.blks s'.heap.length T.slots s'.tmps []).1, (ghA T s').1 ++ b :: r, s'.marks⟩ a W := by
      refine ⟨by rw [k5]; exact hst.size, fun i v hi => ?_, ?_, fun x hx => ?_, gh_holds2 hst.heap k1 k2⟩
      · obtain ⟨u, hu, hs⟩ := k6 i v hi
        obtain ⟨x, hx, hv⟩ := hst.slots i u hu
        refine ⟨x, hx, ?_⟩
        rcases hv with rfl | ⟨h1, h2⟩
        · exact .inl (hs.1 rfl)
        · obtain ⟨h3, h4⟩ := hs.2 E h1
          exact .inr ⟨by show inS ((ghA T s').1 ++ b :: r).length v = true; rw [hlen]; exact h3, by rw [h2, h4]⟩
      · rw [marksOf_agree (Agree.gh E _) hst.scope]; exact hst.defers
      · have := hst.scope x hx; show x < ((ghA T s').1 ++ b :: r).length; rw [hlen]; omega
    exact ⟨rfl, _, hst', ⟨h2.agree.trans ((Agree.gh E _).mono h2.len) (Nat.le_refl _), by show n0 ≤ ((ghA T s').1 ++ b :: r).length; rw [hlen]; have := h2.len; omega, fun k hk => h2.mine k (gh_mine2 k1 k2 hk), h2.frame, h2.size, h2.os, h2.tape, h2.output⟩⟩
end Go.Eng

/- ENGINE, PART 14: what a loop comes to, for a family of states at its head. -/
namespace Go.Eng
open Go

noncomputable def codesB (l : List (Code × Code)) : Bool := @decide (codesOk l) (Classical.propDecidable _)
theorem codesB_iff {l : List (Code × Code)} : codesB l = true ↔ codesOk l := by
  unfold codesB
  exact @decide_eq_true_iff _ (Classical.propDecidable _)

/-- What is not reckoned. -/
noncomputable def pB (p : Prop) : Bool := @decide p (Classical.propDecidable p)
theorem pB_iff {p : Prop} : pB p = true ↔ p := by unfold pB; exact @decide_eq_true_iff p (Classical.propDecidable p)

mutual
/-- The names that a template and a value have for the same blocks. -/
def pairsV : TV → V → List (Nat × Nat)
  | .ptr b _, .ptr b' _ => [(b, b')]
  | .gs b, .gs b' => [(b, b')]
  | .view b _, .view b' _ _ _ => [(b, b')]
  | .yield b, .yield b' => [(b, b')]
  | .func _ l, .func _ l' => pairsVs l l'
  | .agg l, .agg l' => pairsVs l l'
  | .tuple l, .tuple l' => pairsVs l l'
  | _, _ => []
def pairsVs : List TV → List V → List (Nat × Nat)
  | t :: r, v :: q => pairsV t v ++ pairsVs r q
  | _, _ => []
end
def pairsS : TS → List V → List (Nat × Nat)
  | none :: r, _ :: q => pairsS r q
  | some t :: r, v :: q => pairsV t v ++ pairsS r q
  | _, _ => []
def findN (b : Nat) : List (Nat × Nat) → Nat
  | [] => b
  | (a, c) :: r => bif Nat.beq a b then c else findN b r
/-- The images of i, i + 1, ..: the identity below the base, behind it as the slots say. -/
def images (n0 : Nat) (ps : List (Nat × Nat)) : Nat → Nat → List Nat
  | _, 0 => []
  | i, k + 1 => (bif Nat.blt i n0 then i else findN i ps) :: images n0 ps (i + 1) k
theorem images_len {n0 : Nat} {ps : List (Nat × Nat)} : ∀ {k i : Nat}, (images n0 ps i k).length = k
  | 0, _ => rfl
  | k + 1, i => by simp only [images, List.length_cons, images_len (k := k)]
/-- Blocks of the base keep their names: what lies in them tells names too. -/
def pairsB : TB → Blk → List (Nat × Nat)
  | .own _ (.vs l), .own _ (.vs l') => pairsVs l l'
  | .grow _ _ _ (.vs l), .grow _ _ _ (.vs l') => pairsVs l l'
  | .loopB _ _ ts _ _ _ _, .loopB _ _ vs _ _ _ _ => pairsS ts vs
  | _, _ => []
def pairsH : Nat → List TB → List Blk → List (Nat × Nat)
  | 0, _, _ => []
  | n + 1, t :: ts, b :: bs => pairsB t b ++ pairsH n ts bs
  | _ + 1, _, _ => []
/-- The blocks that the slots point to tell names as well. -/
def pairsD (bl : List TB) (h : List Blk) : List (Nat × Nat) → List (Nat × Nat)
  | [] => []
  | (a, c) :: r => pairsB (nthB bl a) (getB h c) ++ pairsD bl h r
/-- The records of lent slices. -/
def lentPairs (n0 : Nat) (ps : List (Nat × Nat)) (h : List Blk) : List TB → Nat → List (Nat × Nat)
  | [], _ => []
  | .lent b _ _ _ _ _ :: r, i => match lentAt (bif Nat.blt b n0 then b else findN b ps) h 0 with
    | some (q, _) => (i, q) :: lentPairs n0 ps h r (i + 1)
    | none => lentPairs n0 ps h r (i + 1)
  | _ :: r, i => lentPairs n0 ps h r (i + 1)
def namesL (T : Tm) (n0 : Nat) (s : AS) (ps : List (Nat × Nat)) : List Nat := images n0 (ps ++ lentPairs n0 ps s.heap T.blks 0) 0 T.blks.length
def namesP (T : Tm) (n0 : Nat) (s : AS) (ps : List (Nat × Nat)) : List Nat := namesL T n0 s (ps ++ pairsD T.blks s.heap ps)
def Tm.names (T : Tm) (n0 : Nat) (s : AS) : List Nat := namesP T n0 s (pairsS T.slots s.tmps ++ pairsH n0 T.blks s.heap)
/-- The template against the state, its blocks under whatever names. -/
def Tm.find (T : Tm) (n0 : Nat) (s : AS) : Option (List PV × List (Code × Code)) := match fitsB n0 (T.names n0 s) s with
  | true => T.match (readS (T.names n0 s) s)
  | false => none
theorem Tm.find_ok {T : Tm} {n0 : Nat} {s : AS} {ps : List PV} {c : List (Code × Code)} (h : T.find n0 s = some (ps, c)) (hc : codesOk c) (hk : T.ok = true) : ∃ ρ, Sub n0 ρ s (T.at ps) := by
  unfold Tm.find at h
  split at h
  · rename_i hf
    exact ⟨_, Sub.of hf (by rw [T.at_len, Tm.names, namesP, namesL, images_len]) (T.match_ok h hc hk)⟩
  · cases h

/-- What a loop comes to: a tree of cases. -/
inductive Fin where
  | no
  | leaf (e : XE) (s : AS)
  | br (c : Bool) (t f : Fin)
def Fin.run {R : Type} (k : KC R) : Fin → Option R
  | .no => none
  | .leaf e s => k e s
  | .br c t f => cond c (t.run k) (f.run k)
def Fin.pick : Fin → Option (XE × AS)
  | .no => none
  | .leaf e s => some (e, s)
  | .br c t f => cond c t.pick f.pick
theorem Fin.run_ok {R : Type} {k : KC R} {r : R} : ∀ {f : Fin}, f.run k = some r → ∃ e s, f.pick = some (e, s) ∧ k e s = some r
  | .no, h => by cases h
  | .leaf e s, h => ⟨e, s, rfl, h⟩
  | .br c t f, h => by
    cases c with
    | true => exact Fin.run_ok (f := t) h
    | false => exact Fin.run_ok (f := f) h
/-- A loop's summary: from the template's states to what is claimed; n is the base for which that was shown; the other one where this one does not fit. -/
noncomputable def lsumE (n : Nat) (T : Tm) (body : Code) (fin : List PV → Fin) (els : LoopSum) : LoopSum := fun R n0 b s k => match Nat.beq n0 n with
  | true => match T.find n0 (s.ghost T) with
    | some (ps, c) => some (cond (codesB ((body, b) :: c)) ((fin ps).run k) none)
    | none => els R n0 b s k
  | false => els R n0 b s k
/-- The end of a chain of summaries: nothing is known; or the loop is unrolled. -/
def noSum : LoopSum := fun _ _ _ _ _ => some none
theorem noSum_ok {P : Program} : LoopOk P noSum := by intro R n0 b s k r h; cases h
def unroll : LoopSum := fun _ _ _ _ _ => none
theorem unroll_ok {P : Program} : LoopOk P unroll := by intro R n0 b s k r h; cases h
noncomputable def lsumF (n : Nat) (T : Tm) (body : Code) (fin : List PV → Fin) : LoopSum := lsumE n T body fin noSum
noncomputable def lsum (n : Nat) (T : Tm) (body : Code) (inv : List PV → Bool) (fin : List PV → XE × AS) : LoopSum := lsumF n T body (fun ps => .br (inv ps) (.leaf (fin ps).1 (fin ps).2) .no)
theorem lsumE_ok {P : Program} {n : Nat} {T : Tm} {body : Code} {fin : List PV → Fin} {els : LoopSum} (hk : T.ok = true) (H : ∀ rd ps e s, (fin ps).pick = some (e, s) → SimC P n rd (.loop body) (T.at ps) e s) (he : LoopOk P els) : LoopOk P (lsumE n T body fin els) := by
  intro R n0 b s k r hr
  unfold lsumE at hr
  split at hr
  · rename_i hn
    have hn := Nat.eq_of_beq_eq_true hn
    subst hn
    split at hr
    · rename_i ps c hm
      simp only [Option.some.injEq] at hr
      cases hc : codesB ((body, b) :: c) with
      | false => rw [hc] at hr; cases hr
      | true =>
        rw [hc, cond_true] at hr
        rw [codesB_iff] at hc
        have hb : body = b := hc (body, b) (by simp)
        subst hb
        obtain ⟨e, s1, h1, h2⟩ := Fin.run_ok hr
        obtain ⟨ρ, hs⟩ := T.find_ok hm (fun x hx => hc x (by simp [hx])) hk
        exact ⟨_, _, h2, fun rd => SimC.ghost ((H rd ps e s1 h1).pre hs)⟩
    · exact he _ _ _ _ _ _ hr
  · exact he _ _ _ _ _ _ hr
theorem lsumF_ok {P : Program} {n : Nat} {T : Tm} {body : Code} {fin : List PV → Fin} (hk : T.ok = true) (H : ∀ rd ps e s, (fin ps).pick = some (e, s) → SimC P n rd (.loop body) (T.at ps) e s) : LoopOk P (lsumF n T body fin) := lsumE_ok hk H noSum_ok
theorem lsum_ok {P : Program} {n : Nat} {T : Tm} {body : Code} {inv : List PV → Bool} {fin : List PV → XE × AS} (hk : T.ok = true) (H : ∀ rd ps, inv ps = true → SimC P n rd (.loop body) (T.at ps) (fin ps).1 (fin ps).2) : LoopOk P (lsum n T body inv fin) := by
  refine lsumF_ok hk fun rd ps e s h => ?_
  simp only [Fin.pick] at h
  cases hi : inv ps with
  | false => rw [hi] at h; cases h
  | true =>
    rw [hi, cond_true] at h
    cases h
    exact H rd ps hi

/-- One round, and what it comes to within the families: from T; on to T2, or out to T'. -/
def roundG (P : Program) (C : Oracle) (L : Loops) (N : Nat) (n0 : Nat) (rd : Option Nat) (me : FuncId) (c : Code) (T T2 T' : Tm) (ps : List PV) : Option (XE × List PV × List (Code × Code)) := evalCode P C L N n0 rd me c (T.at ps) (fun e s => match e with
  | .normal => match T2.find n0 (s.ghost T2) with
    | some a => some (e, a)
    | none => none
  | e => match T'.find n0 (s.ghost T') with
    | some a => some (e, a)
    | none => none)
def roundT (P : Program) (C : Oracle) (L : Loops) (N : Nat) (n0 : Nat) (rd : Option Nat) (me : FuncId) (c : Code) (T T' : Tm) (ps : List PV) : Option (XE × List PV × List (Code × Code)) := roundG P C L N n0 rd me c T T T' ps
theorem roundG_sim {P : Program} {C : Oracle} {L : Loops} {N n0 : Nat} {rd : Option Nat} {me : FuncId} {c : Code} {T T2 T' : Tm} {ps qs : List PV} {e : XE} {l : List (Code × Code)} (hC : OracleOk P C) (hm : P.follows .mixedOrders = true) (hl : loopsOk P L) (hk : T2.ok = true) (hk' : T'.ok = true)
    (h : roundG P C L N n0 rd me c T T2 T' ps = some (e, qs, l)) (hc : codesOk l) : (e = .normal → SimC P n0 rd c (T.at ps) e (T2.at qs)) ∧ (e ≠ .normal → SimC P n0 rd c (T.at ps) e (T'.at qs)) := by
  obtain ⟨e1, s1, h1, h2⟩ := evalCode_ok hC hm hl h
  have main : ∀ {U : Tm}, U.ok = true → U.find n0 (s1.ghost U) = some (qs, l) → SimC P n0 rd c (T.at ps) e1 (U.at qs) := fun {U} hU hma => by
    obtain ⟨ρ, hs⟩ := U.find_ok hma hc hU
    exact h2.ghost_post.post hs
  cases e1 with
  | normal =>
    simp only at h1
    split at h1
    · rename_i a ha
      cases h1
      exact ⟨fun _ => main hk ha, fun hne => absurd rfl hne⟩
    · cases h1
  | exit id =>
    simp only at h1
    split at h1
    · rename_i a ha
      cases h1
      exact ⟨fun he => (by cases he), fun _ => main hk' ha⟩
    · cases h1
  | ret =>
    simp only at h1
    split at h1
    · rename_i a ha
      cases h1
      exact ⟨fun he => (by cases he), fun _ => main hk' ha⟩
    · cases h1
theorem roundT_sim {P : Program} {C : Oracle} {L : Loops} {N n0 : Nat} {rd : Option Nat} {me : FuncId} {c : Code} {T T' : Tm} {ps qs : List PV} {e : XE} {l : List (Code × Code)} (hC : OracleOk P C) (hm : P.follows .mixedOrders = true) (hl : loopsOk P L) (hk : T.ok = true) (hk' : T'.ok = true)
    (h : roundT P C L N n0 rd me c T T' ps = some (e, qs, l)) (hc : codesOk l) : (e = .normal → SimC P n0 rd c (T.at ps) e (T.at qs)) ∧ (e ≠ .normal → SimC P n0 rd c (T.at ps) e (T'.at qs)) := roundG_sim hC hm hl hk hk' h hc

/-- A loop whose rounds the engine has run: over a family in X. -/
theorem loop_of_rounds_n {P : Program} {C : Oracle} {L : Loops} {N n0 : Nat} {rd : Option Nat} {me : FuncId} {c : Code} {T T' : Tm} (hC : OracleOk P C) (hm : P.follows .mixedOrders = true) (hl : loopsOk P L) (hk : T.ok = true) (hk' : T'.ok = true)
    {X : Type} (enc : X → List PV) (inv : X → Prop) (μ : X → Nat) (fin : X → XE × List PV)
    (round : ∀ x, inv x → ∃ e qs l, roundT P C L N n0 rd me c T T' (enc x) = some (e, qs, l) ∧ codesOk l ∧
      ((e = .normal ∧ ∃ y, qs = enc y ∧ inv y ∧ μ y < μ x ∧ fin y = fin x) ∨ (e ≠ .normal ∧ (e, qs) = fin x))) :
    ∀ x, inv x → ∃ n, SimL P n0 rd c n (T.at (enc x)) (fin x).1 (T'.at (fin x).2) := by
  have key : ∀ m x, μ x = m → inv x → ∃ n, SimL P n0 rd c n (T.at (enc x)) (fin x).1 (T'.at (fin x).2) := by
    intro m
    induction m using Nat.strongRecOn with
    | _ m ih =>
      intro x hm' hx
      obtain ⟨e, qs, l, h1, h2, h3⟩ := round x hx
      obtain ⟨q1, q2⟩ := roundT_sim hC hm hl hk hk' h1 h2
      rcases h3 with ⟨rfl, y, rfl, hy, hlt, hf⟩ | ⟨hne, hf⟩
      · obtain ⟨n, hn⟩ := ih (μ y) (hm' ▸ hlt) y rfl hy
        rw [hf] at hn
        exact ⟨n + 1, (q1 rfl).step hn⟩
      · rw [← hf]
        exact ⟨1, (q2 hne).leave hne⟩
  exact fun x hx => key _ x rfl hx
theorem loop_of_rounds {P : Program} {C : Oracle} {L : Loops} {N n0 : Nat} {rd : Option Nat} {me : FuncId} {c : Code} {T T' : Tm} (hC : OracleOk P C) (hm : P.follows .mixedOrders = true) (hl : loopsOk P L) (hk : T.ok = true) (hk' : T'.ok = true)
    {X : Type} (enc : X → List PV) (inv : X → Prop) (μ : X → Nat) (fin : X → XE × List PV)
    (round : ∀ x, inv x → ∃ e qs l, roundT P C L N n0 rd me c T T' (enc x) = some (e, qs, l) ∧ codesOk l ∧
      ((e = .normal ∧ ∃ y, qs = enc y ∧ inv y ∧ μ y < μ x ∧ fin y = fin x) ∨ (e ≠ .normal ∧ (e, qs) = fin x))) :
    ∀ x, inv x → SimC P n0 rd (.loop c) (T.at (enc x)) (fin x).1 (T'.at (fin x).2) := fun x hx => by
  obtain ⟨n, hn⟩ := loop_of_rounds_n hC hm hl hk hk' enc inv μ fin round x hx
  exact hn.loop
/-- The first round leads into another family. -/
theorem loop_peel {P : Program} {C : Oracle} {L : Loops} {N n0 : Nat} {rd : Option Nat} {me : FuncId} {c : Code} {T T2 T' : Tm} {ps qs : List PV} {l : List (Code × Code)} {e : XE} {s' : AS} {n : Nat} (hC : OracleOk P C) (hm : P.follows .mixedOrders = true) (hl : loopsOk P L) (hk : T2.ok = true) (hk' : T'.ok = true)
    (h : roundG P C L N n0 rd me c T T2 T' ps = some (.normal, qs, l)) (hc : codesOk l) (h2 : SimL P n0 rd c n (T2.at qs) e s') : SimC P n0 rd (.loop c) (T.at ps) e s' :=
  (((roundG_sim hC hm hl hk hk' h hc).1 rfl).step h2).loop
theorem loop_leave {P : Program} {C : Oracle} {L : Loops} {N n0 : Nat} {rd : Option Nat} {me : FuncId} {c : Code} {T T2 T' : Tm} {ps qs : List PV} {l : List (Code × Code)} {e : XE} (hC : OracleOk P C) (hm : P.follows .mixedOrders = true) (hl : loopsOk P L) (hk : T2.ok = true) (hk' : T'.ok = true)
    (h : roundG P C L N n0 rd me c T T2 T' ps = some (e, qs, l)) (hc : codesOk l) (he : e ≠ .normal) : SimC P n0 rd (.loop c) (T.at ps) e (T'.at qs) :=
  (((roundG_sim hC hm hl hk hk' h hc).2 he).leave he).loop

/-- Slots by their numbers. -/
def lookT (i : Nat) : List (Nat × TV) → Option TV
  | [] => none
  | (j, t) :: r => bif Nat.beq j i then some t else lookT i r
def mkS (l : List (Nat × TV)) : Nat → Nat → TS
  | _, 0 => []
  | i, k + 1 => lookT i l :: mkS l (i + 1) k

/-- Pieces of a function's code, by the number of their first region. -/
def findLoop (n : Nat) : Code → Option Code
  | .seq a b => match findLoop n a with
    | some c => some c
    | none => findLoop n b
  | .cond _ a b => match findLoop n a with
    | some c => some c
    | none => findLoop n b
  | .block _ b => findLoop n b
  | .loop b => match Nat.beq (firstReg b) n with
    | true => some b
    | false => findLoop n b
  | .rangeFunc _ _ a b => match findLoop n a with
    | some c => some c
    | none => findLoop n b
  | _ => none
def loopOf (n : Nat) (fn : Func) : Code := match fn.body with
  | some c => match findLoop n c with
    | some b => b
    | none => .skip
  | none => .skip
def findRange (n : Nat) : Code → Option (Code × Code)
  | .seq a b => match findRange n a with
    | some c => some c
    | none => findRange n b
  | .cond _ a b => match findRange n a with
    | some c => some c
    | none => findRange n b
  | .block _ b => findRange n b
  | .loop b => findRange n b
  | .rangeFunc _ _ a b => match Nat.beq (firstReg b) n with
    | true => some (a, b)
    | false => findRange n b
  | _ => none
def rangeA (n : Nat) (fn : Func) : Code := match fn.body with
  | some c => match findRange n c with
    | some b => b.1
    | none => .skip
  | none => .skip
def rangeB (n : Nat) (fn : Func) : Code := match fn.body with
  | some c => match findRange n c with
    | some b => b.2
    | none => .skip
  | none => .skip
/-- Loops of one function. -/
def sums (l : Nat → Option LoopSum) : Loops := ⟨l, fun _ => none⟩
end Go.Eng

/- ENGINE, PART 15: functions that read the slices they are handed and make new blocks: known by a heap of their own. -/
namespace Go.Eng
open Go

mutual
/-- Names of blocks from a on become names from c on. -/
def shV (a c : Nat) : V → V
  | .ptr b off => .ptr (b - a + c) off
  | .view b l sz len => .view (b - a + c) l sz len
  | .aslice b off len cap => .aslice (b - a + c) off len cap
  | .gs b => .gs (b - a + c)
  | .yield b => .yield (b - a + c)
  | .func f l => .func f (shVs a c l)
  | .agg l => .agg (shVs a c l)
  | .tuple l => .tuple (shVs a c l)
  | v => v
def shVs (a c : Nat) : List V → List V
  | [] => []
  | v :: r => shV a c v :: shVs a c r
end
mutual
def fromV (a : Nat) : V → Bool
  | .ptr b _ => Nat.ble a b
  | .view b _ _ _ => Nat.ble a b
  | .aslice b _ _ _ => Nat.ble a b
  | .gs b => Nat.ble a b
  | .yield b => Nat.ble a b
  | .func _ l => fromVs a l
  | .agg l => fromVs a l
  | .tuple l => fromVs a l
  | _ => true
def fromVs (a : Nat) : List V → Bool
  | [] => true
  | v :: r => fromV a v && fromVs a r
end
/-- Two environments that agree behind a and behind c. -/
structure AgreeAt (a c n : Nat) (E E' : Env) : Prop where
  blk : ∀ j, j < n → E'.blk (c + j) = E.blk (a + j)
  delta : ∀ j, j < n → E'.delta (c + j) = E.delta (a + j)
  len : ∀ j, j < n → E'.len (c + j) = E.len (a + j)
  cap : ∀ j, j < n → E'.cap (c + j) = E.cap (a + j)
  isnil : ∀ j, j < n → E'.isnil (c + j) = E.isnil (a + j)
  base : ∀ j, j < n → E'.base (c + j) = E.base (a + j)
theorem at_eq {a c n b : Nat} {α : Type} {f g : Nat → α} (h : ∀ j, j < n → g (c + j) = f (a + j)) (h1 : a ≤ b) (h2 : b < a + n) : g (b - a + c) = f b := by
  have := h (b - a) (by omega)
  rw [show c + (b - a) = b - a + c by omega, show a + (b - a) = b by omega] at this
  exact this
mutual
theorem conc_sh {a c n : Nat} {E E' : Env} (h : AgreeAt a c n E E') : ∀ v, inS (a + n) v = true → fromV a v = true → conc E' (shV a c v) = conc E v ∧ inS (c + n) (shV a c v) = true
  | .bool _, _, _ | .int _ _, _, _ | .str _, _, _ | .flat _, _, _ | .glob _ _, _, _ => by simp [conc, inS, shV]
  | .ptr b off, hs, hf => by
    simp [inS] at hs; simp [fromV] at hf
    simp only [shV, conc, inS, at_eq h.blk hf hs, at_eq h.delta hf hs]
    simp; omega
  | .view b l sz len, hs, hf => by
    simp [inS] at hs; simp [fromV] at hf
    simp only [shV, conc, inS, at_eq h.blk hf hs, at_eq h.delta hf hs, at_eq h.cap hf hs, at_eq h.isnil hf hs, at_eq h.base hf hs]
    simp; omega
  | .aslice b off len cap, hs, hf => by
    simp [inS] at hs; simp [fromV] at hf
    simp only [shV, conc, inS, at_eq h.blk hf hs, at_eq h.delta hf hs]
    simp; omega
  | .gs b, hs, hf => by
    simp [inS] at hs; simp [fromV] at hf
    simp only [shV, conc, inS, at_eq h.blk hf hs, at_eq h.delta hf hs, at_eq h.len hf hs, at_eq h.cap hf hs, at_eq h.isnil hf hs, at_eq h.base hf hs]
    simp; omega
  | .yield b, hs, hf => by
    simp [inS] at hs; simp [fromV] at hf
    simp only [shV, conc, inS, at_eq h.blk hf hs]
    simp; omega
  | .func f l, hs, hf => by
    obtain ⟨h1, h2⟩ := concs_sh h l (by simpa [inS] using hs) (by simpa [fromV] using hf)
    exact ⟨by simp only [shV, conc, h1], by simpa [shV, inS] using h2⟩
  | .agg l, hs, hf => by
    obtain ⟨h1, h2⟩ := concs_sh h l (by simpa [inS] using hs) (by simpa [fromV] using hf)
    exact ⟨by simp only [shV, conc, h1], by simpa [shV, inS] using h2⟩
  | .tuple l, hs, hf => by
    obtain ⟨h1, h2⟩ := concs_sh h l (by simpa [inS] using hs) (by simpa [fromV] using hf)
    exact ⟨by simp only [shV, conc, h1], by simpa [shV, inS] using h2⟩
  | .top, hs, _ => by simp [inS] at hs
theorem concs_sh {a c n : Nat} {E E' : Env} (h : AgreeAt a c n E E') : ∀ l, inSs (a + n) l = true → fromVs a l = true → concs E' (shVs a c l) = concs E l ∧ inSs (c + n) (shVs a c l) = true
  | [], _, _ => ⟨rfl, rfl⟩
  | v :: r, hs, hf => by
    simp only [inSs, fromVs, Bool.and_eq_true] at hs hf
    obtain ⟨h1, h2⟩ := conc_sh h v hs.1 hf.1
    obtain ⟨h3, h4⟩ := concs_sh h r hs.2 hf.2
    exact ⟨by simp only [shVs, concs, h1, h3], by simp only [shVs, inSs, h2, h4]; rfl⟩
end

def shR (a c : Nat) : Row → Row
  | .vs l => .vs (shVs a c l)
  | r => r
def fromR (a : Nat) : Row → Bool
  | .vs l => fromVs a l
  | _ => true
theorem shR_vs {a c n : Nat} {E E' : Env} (h : AgreeAt a c n E E') {r : Row} (hs : inSs (a + n) r.toVs = true) (hf : fromR a r = true) :
    concs E' (shR a c r).toVs = concs E r.toVs ∧ inSs (c + n) (shR a c r).toVs = true ∧ (shR a c r).len = r.len := by
  cases r with
  | vs l =>
    obtain ⟨h1, h2⟩ := concs_sh h l hs hf
    refine ⟨h1, h2, ?_⟩
    have := congrArg List.length h1
    simpa [concs_eq, shR, Row.len] using this
  | ints k l =>
    refine ⟨?_, ?_, rfl⟩
    · simp only [shR, Row.toVs, concs_eq, List.map_map]; rfl
    · exact rowIn_ok (n := c + n) (row := .ints k l) rfl
  | strs l =>
    refine ⟨?_, ?_, rfl⟩
    · simp only [shR, Row.toVs, concs_eq, List.map_map]; rfl
    · exact rowIn_ok (n := c + n) (row := .strs l) rfl
def shB (a c : Nat) : Blk → Blk
  | .own ty r => .own ty (shR a c r)
  | .grow nn ty sz r => .grow nn ty sz (shR a c r)
  | _ => .dead
def freshB (a : Nat) : Blk → Bool
  | .dead => true
  | .own _ r => fromR a r
  | .grow _ _ _ r => fromR a r
  | _ => false
def shBs (a c : Nat) : List Blk → List Blk
  | [] => []
  | b :: r => shB a c b :: shBs a c r
def freshBs (a : Nat) : List Blk → Bool
  | [] => true
  | b :: r => freshB a b && freshBs a r
theorem shBs_eq (a c : Nat) (l : List Blk) : shBs a c l = l.map (shB a c) := by
  induction l with
  | nil => rfl
  | cons b r ih => simp [shBs, ih]
theorem freshBs_get {a : Nat} : ∀ {l : List Blk} {i : Nat} {b : Blk}, freshBs a l = true → l[i]? = some b → freshB a b = true
  | [], i, b, _, h => by simp at h
  | u :: r, 0, b, hs, h => by
    simp only [freshBs, Bool.and_eq_true] at hs
    simp only [List.getElem?_cons_zero, Option.some.injEq] at h
    subst h; exact hs.1
  | u :: r, i + 1, b, hs, h => by
    simp only [freshBs, Bool.and_eq_true] at hs
    simp only [List.getElem?_cons_succ] at h
    exact freshBs_get hs.2 h

theorem BlkOk.sh {a c n j : Nat} {E E' : Env} {W : World} {blk : Blk} (h : AgreeAt a c n E E') (hj : j < n) (hf : freshB a blk = true) (hk : BlkOk E (a + n) W (a + j) blk) : BlkOk E' (c + n) W (c + j) (shB a c blk) := by
  cases blk with
  | dead => trivial
  | own ty r =>
    obtain ⟨h1, h2, fz, h3, h4⟩ := hk
    obtain ⟨q1, q2, q3⟩ := shR_vs h h2 hf
    exact ⟨by rw [h.delta j hj]; exact h1, q2, fz, by rw [q3]; exact h3, by rw [h.blk j hj, q1]; exact h4⟩
  | grow nn ty sz r =>
    obtain ⟨h1, h2, h3, h4, h5, h6, h7⟩ := hk
    obtain ⟨q1, q2, q3⟩ := shR_vs h h2 hf
    refine ⟨by rw [h.delta j hj]; exact h1, q2, h3, by rw [h.len j hj, q3]; exact h4, by rw [h.len j hj, h.cap j hj]; exact h5, fun hn => by rw [q3]; exact h6 (by rw [← h.isnil j hj]; exact hn), fun hn => ?_⟩
    obtain ⟨fz, spare, k1, k2, k3⟩ := h7 (by rw [← h.isnil j hj]; exact hn)
    exact ⟨fz, spare, by rw [q3]; exact k1, by rw [q3, h.cap j hj]; exact k2, by rw [h.blk j hj, q1]; exact k3⟩
  | _ => simp [freshB] at hf
theorem live_sh {a c n j : Nat} {E E' : Env} {blk : Blk} (h : AgreeAt a c n E E') (hj : j < n) (hf : freshB a blk = true) (hl : liveAt E' (c + j) (shB a c blk) = true) : liveAt E (a + j) blk = true ∧ blk.mine = true := by
  cases blk with
  | dead => simp [shB, liveAt] at hl
  | own ty r => exact ⟨rfl, rfl⟩
  | grow nn ty sz r =>
    simp only [shB, liveAt, h.isnil j hj] at hl
    exact ⟨by simpa [liveAt] using hl, rfl⟩
  | _ => simp [freshB] at hf

def Env.join (E E1 : Env) (a c : Nat) : Env :=
  { blk := fun b => if b < c then E.blk b else E1.blk (b - c + a), delta := fun b => if b < c then E.delta b else E1.delta (b - c + a), len := fun b => if b < c then E.len b else E1.len (b - c + a),
    cap := fun b => if b < c then E.cap b else E1.cap (b - c + a), isnil := fun b => if b < c then E.isnil b else E1.isnil (b - c + a), base := fun b => if b < c then E.base b else E1.base (b - c + a) }
theorem Agree.join (E E1 : Env) (a c : Nat) : Agree c E (E.join E1 a c) :=
  ⟨fun _ hb => if_pos hb, fun _ hb => if_pos hb, fun _ hb => if_pos hb, fun _ hb => if_pos hb, fun _ hb => if_pos hb, fun _ hb => if_pos hb⟩
theorem AgreeAt.join (E E1 : Env) (a c n : Nat) : AgreeAt a c n E1 (E.join E1 a c) := by
  have e : ∀ j, c + j - c + a = a + j := fun j => by omega
  refine ⟨fun j _ => ?_, fun j _ => ?_, fun j _ => ?_, fun j _ => ?_, fun j _ => ?_, fun j _ => ?_⟩ <;> (simp only [Env.join]; rw [if_neg (by omega), e])

/-- What a call does that has run over a heap of its own, in the caller's heap. -/
theorem fresh_holds {E E0 E1 : Env} {H h nb : List Blk} {W W' : World} (hh : Holds E H W) (h1 : Holds E1 (h ++ nb) W') (t : Trans E0 h W E1 (h ++ nb) W') (hro : ∀ (b : Nat) blk, h[b]? = some blk → blk.mine = false) (hf : freshBs h.length nb = true) :
    Holds (E.join E1 h.length H.length) (H ++ shBs h.length H.length nb) W' ∧ Trans E H W (E.join E1 h.length H.length) (H ++ shBs h.length H.length nb) W' := by
  have hJ := Agree.join E E1 h.length H.length
  have hA := AgreeAt.join E E1 h.length H.length nb.length
  have hnm : ∀ k, ¬ Mine E0 h k := fun k ⟨b, blk, hb, hm, _⟩ => by rw [hro b blk hb] at hm; cases hm
  have hW : ∀ k, k < W.heap.size → W'.heap[k]? = W.heap[k]? := fun k hk => t.frame k hk (hnm k)
  have hk := hh.keep hJ hW
  have cas : ∀ {b : Nat} {x : Blk}, (H ++ shBs h.length H.length nb)[b]? = some x → H[b]? = some x ∨ ∃ j y, b = H.length + j ∧ nb[j]? = some y ∧ x = shB h.length H.length y ∧ j < nb.length := fun {b x} hb => by
    rcases Nat.lt_or_ge b H.length with hlt | hge
    · rw [List.getElem?_append_left hlt] at hb; exact .inl hb
    · rw [List.getElem?_append_right hge, shBs_eq, List.getElem?_map] at hb
      cases hy : nb[b - H.length]? with
      | none => rw [hy] at hb; cases hb
      | some y =>
        rw [hy] at hb
        exact .inr ⟨b - H.length, y, by omega, hy, by simpa using hb.symm, getElem?_lt hy⟩
  have loc : ∀ {j : Nat} {y : Blk}, nb[j]? = some y → (h ++ nb)[h.length + j]? = some y := fun {j y} hy => by
    rw [List.getElem?_append_right (by omega), show h.length + j - h.length = j by omega]; exact hy
  have hlen : (H ++ shBs h.length H.length nb).length = H.length + nb.length := by rw [List.length_append, shBs_eq, List.length_map]
  have hlen1 : (h ++ nb).length = h.length + nb.length := List.length_append
  have far : ∀ {j : Nat} {y : Blk}, nb[j]? = some y → liveAt (E.join E1 h.length H.length) (H.length + j) (shB h.length H.length y) = true →
      W.heap.size ≤ (E.join E1 h.length H.length).blk (H.length + j) ∧ liveAt E1 (h.length + j) y = true ∧ y.mine = true := fun {j y} hy hl => by
    have hj := getElem?_lt hy
    obtain ⟨l1, l2⟩ := live_sh hA hj (freshBs_get hf hy) hl
    rw [hA.blk j hj]
    rcases t.mine _ ⟨h.length + j, y, loc hy, l2, l1, rfl⟩ with h2 | h2
    · exact absurd h2 (hnm _)
    · exact ⟨h2, l1, l2⟩
  refine ⟨⟨fun b x hb => ?_, fun b b' x x' hb hb' hm hl hl' he => ?_⟩, ⟨hJ, by rw [hlen]; omega, fun k hm => ?_, fun k hk _ => hW k hk, t.size, t.os, t.tape, t.output⟩⟩
  · rw [hlen]
    rcases cas hb with hb | ⟨j, y, rfl, hy, rfl, hj⟩
    · exact (hk.ok b x hb).frame (getElem?_lt hb) (Agree.refl _ _) (by omega) (fun o ho => ho)
    · have := h1.ok _ y (loc hy)
      rw [hlen1] at this
      exact this.sh hA hj (freshBs_get hf hy)
  · rcases cas hb with q | ⟨j, y, rfl, hy, rfl, hj⟩ <;> rcases cas hb' with q' | ⟨j', y', rfl, hy', rfl, hj'⟩
    · exact hk.inj b b' x x' q q' hm hl hl' he
    · exfalso
      have h2 := (far hy' hl').1
      rw [hJ.blk b (getElem?_lt q)] at he
      rw [liveAt_agree hJ (getElem?_lt q)] at hl
      have := (hh.ok b x q).lt hl
      omega
    · exfalso
      have h2 := (far hy hl).1
      rw [hJ.blk b' (getElem?_lt q')] at he
      rw [liveAt_agree hJ (getElem?_lt q')] at hl'
      have := (hh.ok b' x' q').lt hl'
      omega
    · obtain ⟨_, l1, l2⟩ := far hy hl
      obtain ⟨_, l1', l2'⟩ := far hy' hl'
      rw [hA.blk j hj, hA.blk j' hj'] at he
      have := h1.inj _ _ y y' (loc hy) (loc hy') l2 l1 l1' he
      omega
  · obtain ⟨b, x, hb, h2, h3, h4⟩ := hm
    rcases cas hb with q | ⟨j, y, rfl, hy, rfl, hj⟩
    · exact .inl (Mine.agree hJ ⟨b, x, q, h2, h3, h4⟩)
    · rw [← h4]; exact .inr (far hy h3).1
end Go.Eng

/- ENGINE, PART 16: slices that are handed to a function, as blocks of its own heap. -/
namespace Go.Eng
open Go
section
variable {R : Type}

def rowPlain : Row → Bool
  | .vs l => plainVs l
  | _ => true
theorem rowPlain_ok {row : Row} (h : rowPlain row = true) (E E' : Env) (n : Nat) : inSs n row.toVs = true ∧ ∀ (i : Nat) v, row.toVs[i]? = some v → conc E v = conc E' v := by
  have key : plainVs row.toVs = true := by
    cases row with
    | vs l => exact h
    | ints k l => simp only [Row.toVs]; clear h; induction l with
      | nil => rfl
      | cons x r ih => simp only [List.map_cons, plainVs, plainV]; exact ih
    | strs l => simp only [Row.toVs]; clear h; induction l with
      | nil => rfl
      | cons x r ih => simp only [List.map_cons, plainVs, plainV]; exact ih
  obtain ⟨h1, h2⟩ := plainVs_conc (E := E) (E' := E') (n := n) _ key
  refine ⟨h2, fun i v hi => ?_⟩
  rw [concs_eq, concs_eq] at h1
  have := congrArg (fun l => l[i]?) h1
  simpa [List.getElem?_map, hi] using this

def locK (x : V) (H : List Blk) (i : Nat) (K : V → List Blk → Option R) : Option R := match plainV x with
  | true => K x []
  | false => match x with
    | .gs b => match sliceRow (getB H b) with
      | some (sz, row) => match rowPlain (tidyR row) with
        | true => K (.gs i) [.rs (nnB (getB H b)) sz (tidyR row)]
        | false => none
      | none => none
    | .view b l sz2 len => match sliceRow (getB H b) with
      | some (sz, row) => match Nat.beq sz2 sz with
        | true => cond (decide (l + len ≤ elemsN row.len sz)) (match rowSub (tidyR row) (mulS l sz) (mulS len sz) with
          | some r => match rowPlain r with
            | true => K (.gs i) [.rs (nnB (getB H b)) sz r]
            | false => none
          | none => none) none
        | false => none
      | none => none
    | .aslice b off len cap => match getB H b with
      | .own _ row => match rowSub row off len with
        | some r => cond (decide (off + len ≤ row.len ∧ len ≤ cap)) (match rowPlain (tidyR r) with
          | true => K (.gs i) [.rs true 1 (tidyR r)]
          | false => none) none
        | none => none
      | _ => none
    | _ => none

theorem Holds.lend {E0 : Env} {h : List Blk} {W : World} (hh : Holds E0 h W) (hro : ∀ (b : Nat) blk, h[b]? = some blk → blk.mine = false) {blk delta len cap : Nat} {nil : Bool} {ba : Option Addr} {nn : Bool} {sz : Nat} {row : Row}
    (hk : BlkOk (E0.one h.length blk delta len cap nil ba) (h.length + 1) W h.length (.rs nn sz row)) :
    Holds (E0.one h.length blk delta len cap nil ba) (h ++ [.rs nn sz row]) W ∧ ∀ (b : Nat) x, (h ++ [Blk.rs nn sz row])[b]? = some x → x.mine = false := by
  have hE := Agree.one E0 h.length blk delta len cap nil ba
  have hro' : ∀ (b : Nat) x, (h ++ [Blk.rs nn sz row])[b]? = some x → x.mine = false := fun b x hb => by
    rcases getElem?_snoc hb with hb | ⟨_, rfl⟩
    · exact hro b x hb
    · rfl
  refine ⟨(hh.keep hE fun _ _ => rfl).snoc hk (fun b x hb _ _ hm => ?_), hro'⟩
  rcases hm with hm | hm
  · cases hm
  · rw [hro b x hb] at hm; cases hm

theorem locK_ok {x : V} {H : List Blk} {i : Nat} {K : V → List Blk → Option R} {r : R} (hr : locK x H i K = some r) : ∃ x' nb, K x' nb = some r ∧
    ∀ E W, Holds E H W → inS H.length x = true → ∀ E0 h, Holds E0 h W → h.length = i → (∀ (b : Nat) blk, h[b]? = some blk → blk.mine = false) →
      ∃ E1, Agree i E0 E1 ∧ Holds E1 (h ++ nb) W ∧ conc E1 x' = conc E x ∧ inS (h ++ nb).length x' = true ∧ ∀ (b : Nat) blk, (h ++ nb)[b]? = some blk → blk.mine = false := by
  unfold locK at hr
  split at hr
  · rename_i hp
    refine ⟨x, [], hr, fun E W hh _ E0 h h0 hi hro => ⟨E0, Agree.refl _ _, by simpa using h0, ?_, ?_, by simpa using hro⟩⟩
    · exact (plainV_conc (E := E0) (E' := E) (n := 0) x hp).1
    · exact (plainV_conc (E := E0) (E' := E) (n := (h ++ []).length) x hp).2
  · split at hr
    · rename_i b _
      split at hr
      · rename_i sz row hsr
        split at hr
        · rename_i hpl
          refine ⟨_, _, hr, fun E W hh _ E0 h h0 hi hro => ?_⟩
          subst hi
          have hne : getB H b ≠ .dead := fun e => by rw [e] at hsr; simp [sliceRow] at hsr
          have hb := getB_some rfl hne
          obtain ⟨hrow, hz, hl, hcap, hnil, _⟩ := sliceRow_ok hsr (hh.ok b _ hb)
          obtain ⟨q1, q2⟩ := h0.lend hro (blk := E.blk b) (delta := E.delta b) (len := E.len b) (cap := E.cap b) (nil := E.isnil b) (ba := E.base b) (nn := nnB (getB H b)) (sz := sz) (row := tidyR row) (by
            have htl : (tidyR row).len = row.len := by rw [Row.len_eq, tidyR_ok, ← Row.len_eq]
            refine ⟨(rowPlain_ok hpl E E _).1, hz, by simp [Env.one, htl, hl], by simp [Env.one, hcap], fun hn => ?_, fun hn j v hj => ?_⟩
            · simp only [Env.one, if_true] at hn
              refine ⟨by rw [htl]; exact hnil hn, ?_⟩
              cases hq : nnB (getB H b) with
              | false => rfl
              | true => have := (nnB_ok hq (hh.ok b _ hb)).1; rw [hn] at this; cases this
            · simp only [Env.one, if_true]
              rw [(rowPlain_ok hpl _ E 0).2 j v hj]
              rw [tidyR_ok] at hj
              exact (hh.cell hb (by rw [hrow]; exact hj)).1)
          exact ⟨_, Agree.one _ _ _ _ _ _ _ _, q1, by simp [conc, Env.one], by simp [inS], q2⟩
        · cases hr
      · cases hr
    · rename_i b l sz2 len _
      split at hr
      · rename_i sz row hsr
        split at hr
        · rename_i hq
          have hq := Nat.eq_of_beq_eq_true hq
          subst hq
          cases hcd : decide (l + len ≤ elemsN row.len sz2) with
          | false => rw [hcd] at hr; cases hr
          | true =>
            rw [hcd, cond_true] at hr
            simp only [decide_eq_true_eq] at hcd
            split at hr
            · rename_i rr hrr
              split at hr
              · rename_i hpl
                have hsub := rowSub_ok hrr
                rw [mulS_eq, mulS_eq, tidyR_ok] at hsub
                refine ⟨_, _, hr, fun E W hh _ E0 h h0 hi hro => ?_⟩
                subst hi
                have hne : getB H b ≠ .dead := fun e => by rw [e] at hsr; simp [sliceRow] at hsr
                have hb := getB_some rfl hne
                obtain ⟨hrow, hz, hl, hcap, hnil, _⟩ := sliceRow_ok hsr (hh.ok b _ hb)
                rw [elemsN_eq hz hl] at hcd
                rw [Row.len_eq] at hl hnil
                have hfit : l * sz2 + len * sz2 ≤ row.toVs.length := by rw [← hl, ← Nat.add_mul]; exact Nat.mul_le_mul_right _ hcd
                have hlen : rr.toVs.length = len * sz2 := by rw [hsub]; simp; omega
                have hget : ∀ j v, rr.toVs[j]? = some v → row.toVs[l * sz2 + j]? = some v := fun j v hj => by
                  rw [hsub, List.getElem?_take] at hj
                  split at hj
                  · rw [List.getElem?_drop] at hj; exact hj
                  · cases hj
                have hn0 : E.isnil b = true → E.len b = 0 := fun hn => by
                  have h3 := hnil hn
                  rw [h3] at hl
                  rcases Nat.mul_eq_zero.1 hl with h | h
                  · exact h
                  · omega
                obtain ⟨q1, q2⟩ := h0.lend hro (blk := E.blk b) (delta := if E.cap b = l then E.delta b else E.delta b + l * sz2) (len := len) (cap := E.cap b - l) (nil := E.isnil b) (ba := E.base b) (nn := nnB (getB H b)) (sz := sz2) (row := rr) (by
                  refine ⟨(rowPlain_ok hpl E E _).1, hz, by simp [Env.one, Row.len_eq, hlen], by simp [Env.one]; omega, fun hn => ?_, fun hn j v hj => ?_⟩
                  · simp only [Env.one, if_true] at hn
                    refine ⟨by rw [Row.len_eq, hlen]; have := hn0 hn; rw [show len = 0 by omega]; simp, ?_⟩
                    cases hq : nnB (getB H b) with
                    | false => rfl
                    | true => have := (nnB_ok hq (hh.ok b _ hb)).1; rw [hn] at this; cases this
                  · simp only [Env.one, if_true]
                    have hjl : j < len * sz2 := by rw [← hlen]; exact getElem?_lt hj
                    have hlp : 0 < len := by
                      rcases Nat.eq_zero_or_pos len with h | h
                      · subst h; simp at hjl
                      · exact h
                    rw [(rowPlain_ok hpl _ E 0).2 j v hj, if_neg (by omega), Nat.add_assoc]
                    exact (hh.cell hb (by rw [hrow]; exact hget j v hj)).1)
                refine ⟨_, Agree.one _ _ _ _ _ _ _ _, q1, ?_, by simp [inS], q2⟩
                simp only [conc, Env.one, if_true]
                cases hn : E.isnil b with
                | true =>
                  have := hn0 hn
                  simp only [cond_true]
                  rw [show len = 0 by omega]
                | false =>
                  simp only [cond_false]
                  split <;> rfl
              · cases hr
            · cases hr
        · cases hr
      · cases hr
    · rename_i b off len cap _
      split at hr
      · rename_i ty row hblk
        split at hr
        · rename_i rr hrr
          cases hcd : decide (off + len ≤ row.len ∧ len ≤ cap) with
          | false => rw [hcd] at hr; cases hr
          | true =>
            rw [hcd, cond_true] at hr
            simp only [decide_eq_true_eq] at hcd
            split at hr
            · rename_i hpl
              have hsub := rowSub_ok hrr
              refine ⟨_, _, hr, fun E W hh _ E0 h h0 hi hro => ?_⟩
              subst hi
              have hb := getB_some hblk (by simp)
              have hfit := hcd.1
              rw [Row.len_eq] at hfit
              have hlen : (tidyR rr).toVs.length = len := by rw [tidyR_ok, hsub]; simp; omega
              have hget : ∀ j v, (tidyR rr).toVs[j]? = some v → row.toVs[off + j]? = some v := fun j v hj => by
                rw [tidyR_ok, hsub, List.getElem?_take] at hj
                split at hj
                · rw [List.getElem?_drop] at hj; exact hj
                · cases hj
              obtain ⟨q1, q2⟩ := h0.lend hro (blk := E.blk b) (delta := E.delta b + off) (len := len) (cap := cap) (nil := false) (ba := none) (nn := true) (sz := 1) (row := tidyR rr) (by
                refine ⟨(rowPlain_ok hpl E E _).1, by omega, by simp [Env.one, Row.len_eq, hlen], by simpa [Env.one] using hcd.2, fun hn => by simp [Env.one] at hn, fun hn j v hj => ?_⟩
                simp only [Env.one, if_true]
                rw [(rowPlain_ok hpl _ E 0).2 j v hj, Nat.add_assoc]
                exact (hh.cell hb (hget j v hj)).1)
              exact ⟨_, Agree.one _ _ _ _ _ _ _ _, q1, by simp [conc, Env.one], by simp [inS], q2⟩
            · cases hr
        · cases hr
      · cases hr
    · cases hr
end
end Go.Eng

/- ENGINE, PART 17: functions that are known over heaps of their own, as an oracle. -/
namespace Go.Eng
open Go

section
variable {R : Type}
/-- A nil slice as a block, where the function wants it so. -/
def locN (nr : Option Row) (x : V) (H : List Blk) (i : Nat) (K : V → List Blk → Option R) : Option R := match nr with
  | some row => match isNilV x && Nat.beq row.len 0 with
    | true => K (.gs i) [.rs false 1 row]
    | false => locK x H i K
  | none => locK x H i K
theorem locN_ok {nr : Option Row} {x : V} {H : List Blk} {i : Nat} {K : V → List Blk → Option R} {r : R} (hr : locN nr x H i K = some r) : ∃ x' nb, K x' nb = some r ∧
    ∀ E W, Holds E H W → inS H.length x = true → ∀ E0 h, Holds E0 h W → h.length = i → (∀ (b : Nat) blk, h[b]? = some blk → blk.mine = false) →
      ∃ E1, Agree i E0 E1 ∧ Holds E1 (h ++ nb) W ∧ conc E1 x' = conc E x ∧ inS (h ++ nb).length x' = true ∧ ∀ (b : Nat) blk, (h ++ nb)[b]? = some blk → blk.mine = false := by
  unfold locN at hr
  split at hr
  · rename_i row
    split at hr
    · rename_i hc
      simp only [Bool.and_eq_true] at hc
      have hx := isNilV_ok hc.1
      have hlen := Nat.eq_of_beq_eq_true hc.2
      have hvs : row.toVs = [] := List.eq_nil_of_length_eq_zero (by rw [← Row.len_eq]; exact hlen)
      refine ⟨_, _, hr, fun E W hh _ E0 h h0 hi hro => ?_⟩
      subst hi
      obtain ⟨q1, q2⟩ := h0.lend hro (blk := 0) (delta := 0) (len := 0) (cap := 0) (nil := true) (ba := none) (nn := false) (sz := 1) (row := row) (by
        refine ⟨by rw [hvs]; rfl, by omega, by simp [Env.one, hlen], by simp [Env.one], fun _ => ⟨hlen, rfl⟩, fun hn => by simp [Env.one] at hn⟩)
      exact ⟨_, Agree.one _ _ _ _ _ _ _ _, q1, by rw [hx]; simp [conc, Env.one], by simp [inS], q2⟩
    · exact locK_ok hr
  · exact locK_ok hr
def locAs (nr : Option Row) : List V → List Blk → List Blk → (List V → List Blk → Option R) → Option R
  | [], _, h, K => K [] h
  | x :: r, H, h, K => locN nr x H h.length (fun x' nb => locAs nr r H (h ++ nb) (fun r' h' => K (x' :: r') h'))
theorem locAs_ok {nr : Option Row} {H : List Blk} : ∀ {args : List V} {h : List Blk} {K : List V → List Blk → Option R} {r : R}, locAs nr args H h K = some r → ∃ args' h', K args' h' = some r ∧
    ∀ E W, Holds E H W → inSs H.length args = true → ∀ E0, Holds E0 h W → (∀ (b : Nat) blk, h[b]? = some blk → blk.mine = false) →
      ∃ E1, Agree h.length E0 E1 ∧ h.length ≤ h'.length ∧ Holds E1 h' W ∧ concs E1 args' = concs E args ∧ inSs h'.length args' = true ∧ ∀ (b : Nat) blk, h'[b]? = some blk → blk.mine = false
  | [], h, K, r, hr => ⟨[], h, hr, fun E W hh hs E0 h0 hro => ⟨E0, Agree.refl _ _, Nat.le_refl _, h0, rfl, rfl, hro⟩⟩
  | x :: q, h, K, r, hr => by
    unfold locAs at hr
    obtain ⟨x', nb, h1, H1⟩ := locN_ok hr
    obtain ⟨q', h', h2, H2⟩ := locAs_ok h1
    refine ⟨x' :: q', h', h2, fun E W hh hs E0 h0 hro => ?_⟩
    simp only [inSs, Bool.and_eq_true] at hs
    obtain ⟨E1, a1, b1, c1, d1, e1⟩ := H1 E W hh hs.1 E0 h h0 rfl hro
    obtain ⟨E2, a2, l2, b2, c2, d2, e2⟩ := H2 E W hh hs.2 E1 b1 e1
    have hle : h.length ≤ (h ++ nb).length := by simp
    refine ⟨E2, a1.trans a2 hle, Nat.le_trans hle l2, b2, ?_, ?_, e2⟩
    · simp only [concs]
      rw [conc_agree a2 x' d1, c1, c2]
    · simp only [inSs, Bool.and_eq_true]
      exact ⟨inS_mono l2 x' d1, d2⟩

theorem Holds.lendG {E0 : Env} {h : List Blk} {W : World} (hh : Holds E0 h W) (hro : ∀ (b : Nat) blk, h[b]? = some blk → blk.mine = false) {blk delta len cap : Nat} {nil : Bool} {ba : Option Addr} {x : Blk} (hx : x.mine = false)
    (hk : BlkOk (E0.one h.length blk delta len cap nil ba) (h.length + 1) W h.length x) :
    Holds (E0.one h.length blk delta len cap nil ba) (h ++ [x]) W ∧ ∀ (b : Nat) y, (h ++ [x])[b]? = some y → y.mine = false := by
  have hE := Agree.one E0 h.length blk delta len cap nil ba
  have hro' : ∀ (b : Nat) y, (h ++ [x])[b]? = some y → y.mine = false := fun b y hb => by
    rcases getElem?_snoc hb with hb | ⟨_, rfl⟩
    · exact hro b y hb
    · exact hx
  refine ⟨(hh.keep hE fun _ _ => rfl).snoc hk (fun b y hb _ _ hm => ?_), hro'⟩
  rcases hm with hm | hm
  · rw [hx] at hm; cases hm
  · rw [hro b y hb] at hm; cases hm
/-- Tables that a function reads lie ahead of its own heap. -/
def locG : List Nat → List Blk → List Blk → (List Blk → Option R) → Option R
  | [], _, h, K => K h
  | g :: q, H, h, K => match findG H g 0 with
    | some b => match getB H b with
      | .glob _ row => match rowPlain row with
        | true => locG q H (h ++ [.glob g row]) K
        | false => none
      | _ => none
    | none => none
theorem locG_ok {H : List Blk} : ∀ {gs : List Nat} {h : List Blk} {K : List Blk → Option R} {r : R}, locG gs H h K = some r → ∃ h', K h' = some r ∧
    ∀ E W, Holds E H W → ∀ E0, Holds E0 h W → (∀ (b : Nat) blk, h[b]? = some blk → blk.mine = false) →
      ∃ E1, Agree h.length E0 E1 ∧ h.length ≤ h'.length ∧ Holds E1 h' W ∧ ∀ (b : Nat) blk, h'[b]? = some blk → blk.mine = false
  | [], h, K, r, hr => ⟨h, hr, fun E W _ E0 h0 hro => ⟨E0, Agree.refl _ _, Nat.le_refl _, h0, hro⟩⟩
  | g :: q, h, K, r, hr => by
    unfold locG at hr
    split at hr
    · rename_i b hf
      obtain ⟨row0, _, hrow⟩ := findG_ok hf
      rw [Nat.sub_zero] at hrow
      split at hr
      · rename_i g' row hb
        have hrow2 := getB_some hb (by simp)
        rw [hrow] at hrow2
        cases hrow2
        split at hr
        · rename_i hpl
          obtain ⟨h', h1, H1⟩ := locG_ok hr
          refine ⟨h', h1, fun E W hh E0 h0 hro => ?_⟩
          obtain ⟨e1, e2, _, e3⟩ := hh.ok b _ hrow
          obtain ⟨q1, q2⟩ := h0.lendG hro (blk := g) (delta := 0) (len := 0) (cap := 0) (nil := false) (ba := none) (x := .glob g row0) rfl (by
            refine ⟨by simp [Env.one], by simp [Env.one], (rowPlain_ok hpl E E _).1, fun j v hj => ?_⟩
            simp only [Env.one, if_true]
            rw [(rowPlain_ok hpl _ E 0).2 j v hj]
            have := e3 j v hj
            rw [e1, e2] at this
            exact this)
          obtain ⟨E1, a1, l1, k1, m1⟩ := H1 E W hh _ q1 q2
          exact ⟨E1, (Agree.one _ _ _ _ _ _ _ _).trans a1 (by simp), by simp at l1; omega, k1, m1⟩
        · cases hr
      · cases hr
    · cases hr

abbrev HTab := FuncId → List V → List Blk → Option (Bool × V × List Blk)
def HTabOk (P : Program) (T : HTab) : Prop := ∀ f args h c v nb, T f args h = some (c, v, nb) → c = true → Enterable P f ∧ FnOK P f args h v (h ++ nb)
def emptyH : HTab := fun _ _ _ => none
theorem emptyH_ok {P : Program} : HTabOk P emptyH := fun _ _ _ _ _ _ h => by cases h
def addH (f : FuncId) (g : List V → List Blk → Option (Bool × V × List Blk)) (T : HTab) : HTab := fun f' args h => cond (Nat.beq f' f) (g args h) (T f' args h)
theorem addH_ok {P : Program} {T : HTab} {f : FuncId} {g : List V → List Blk → Option (Bool × V × List Blk)} (hg : ∀ args h c v nb, g args h = some (c, v, nb) → c = true → Enterable P f ∧ FnOK P f args h v (h ++ nb)) (hT : HTabOk P T) : HTabOk P (addH f g T) := by
  intro f' args h c v nb hq hc
  unfold addH at hq
  cases hb : Nat.beq f' f with
  | true =>
    rw [hb] at hq
    have := Nat.eq_of_beq_eq_true hb
    subst this
    exact hg args h c v nb hq hc
  | false => rw [hb] at hq; exact hT f' args h c v nb hq hc
def hOrcN (gl : FuncId → List Nat) (nr : FuncId → Option Row) (T : HTab) : Oracle := fun _ t args H K => match t with
  | .fn f => locG (gl f) H [] (fun h0 => locAs (nr f) args H h0 (fun args' h => match T f args' h with
    | some (c, v, nb) => cond c (match freshBs h.length nb && fromV h.length v with
      | true => K (shV h.length H.length v) [] (.all (H ++ shBs h.length H.length nb))
      | false => none) none
    | none => none))
  | .yield _ => none
theorem hOrcN_ok {P : Program} {gl : FuncId → List Nat} {nr : FuncId → Option Row} {T : HTab} (hT : HTabOk P T) : OracleOk P (hOrcN gl nr T) := by
  intro R t args H K r hr
  unfold hOrcN at hr
  split at hr
  · rename_i f
    obtain ⟨h0, hr, HG⟩ := locG_ok hr
    obtain ⟨args', h, hk, HL⟩ := locAs_ok hr
    split at hk
    · rename_i c v nb hq
      cases c with
      | false => cases hk
      | true =>
        rw [cond_true] at hk
        split at hk
        · rename_i hfr
          simp only [Bool.and_eq_true] at hfr
          obtain ⟨hent, hfn⟩ := hT f args' h true v nb hq rfl
          refine ⟨_, _, _, hk, rfl, hent, fun h2 hs => ?_, fun _ _ he => (by cases he)⟩
          rw [show h2 = H from hs]
          intro E W hh hin
          obtain ⟨E0, _, _, g5, g6⟩ := HG E W hh { blk := fun _ => 0, delta := fun _ => 0, len := fun _ => 0, cap := fun _ => 0, isnil := fun _ => false, base := fun _ => none } ⟨fun b blk hb => by simp at hb, fun b b' blk blk' hb => by simp at hb⟩ (fun b blk hb => by simp at hb)
          obtain ⟨E1, _, _, g1, g2, g3, g4⟩ := HL E W hh hin E0 g5 g6
          have := hfn E1 W g1 g3
          rw [g2] at this
          refine this.mono ?_
          rintro e W' ⟨x, E2, rfl, hx, hh', ht⟩
          obtain ⟨q1, q2⟩ := fresh_holds hh hh' ht g4 hfr.1
          refine ⟨x, _, rfl, ?_, q1, q2⟩
          rcases hx with rfl | ⟨hx1, hx2⟩
          · exact .inl rfl
          · rw [List.length_append] at hx1
            obtain ⟨k1, k2⟩ := conc_sh (AgreeAt.join E E2 h.length H.length nb.length) v hx1 hfr.2
            refine .inr ⟨?_, by rw [hx2, k1]⟩
            simp only [HEff.app, List.length_append, shBs_eq, List.length_map]
            exact k2
        · cases hk
    · cases hk
  · cases hr
abbrev hOrcG (gl : FuncId → List Nat) (T : HTab) : Oracle := hOrcN gl (fun _ => none) T
theorem hOrcG_ok {P : Program} {gl : FuncId → List Nat} {T : HTab} (hT : HTabOk P T) : OracleOk P (hOrcG gl T) := hOrcN_ok hT
abbrev hOrc (T : HTab) : Oracle := hOrcG (fun _ => []) T
theorem hOrc_ok {P : Program} {T : HTab} (hT : HTabOk P T) : OracleOk P (hOrc T) := hOrcG_ok hT
end
end Go.Eng

/- What a row asks behind a call that leaves all that was there as it was. -/
namespace Go.Eng
open Go Go.ChangeShapes Go.WideShapes Go.ChangeAt Go.RowKit

theorem Trans.below {E E' : Env} {h' : List Blk} {W W' : World} (t : Trans E [] W E' h' W') : Below W.heap.size W W' :=
  ⟨t.os, t.tape, t.output, t.size, fun k hk => t.frame k hk (fun ⟨b, blk, hb, _⟩ => by simp at hb)⟩

theorem emptyHolds (E : Env) (W : World) : Holds E [] W := ⟨fun b blk hb => by simp at hb, fun b b' blk blk' hb => by simp at hb⟩
def env0 : Env := { blk := fun _ => 0, delta := fun _ => 0, len := fun _ => 0, cap := fun _ => 0, isnil := fun _ => false, base := fun _ => none }

/-- A function of plain values that answers true. -/
theorem calls_of_pure {P : Program} {f : FuncId} {args : List V} (h : FnPure P f args (.bool true)) (ha : plainVs args = true) (w : World) :
    Calls P f (concs env0 args).toArray w fun e w' => e = .returned (.bool true) ∧ Below w.heap.size w w' := by
  refine (h.2 [] env0 w (emptyHolds _ _) (plainVs_conc (E := env0) (E' := env0) (n := 0) args ha).2).mono ?_
  rintro e w' ⟨x, E', rfl, hx, _, ht⟩
  exact ⟨by rw [hx.bool], ht.below⟩

section
variable {H : Type} {enc : TypeId × Value → H} {P : Program}

theorem post_below {f : Func} {s : ChangeSpec} {apart fresh handsOn again : Bool} {W W' : World} {args : Array Value} {v : Value} {ds gs : List (DataW H)} {before pa pv : List MemPlace}
    (hW : DataW.Whole enc P f.params.toList s.vars apart W args.toList ds gs before)
    (hres : ∀ (b : Nat) (sp : Nat → Bool) (hd : Bool), DataW.TrodAll enc P W' b sp hd f.resultTypes.toList (v.resultList f.resultTypes.size) (s.fn H (ds ++ gs)).results [])
    (hargs : ∀ sp : Nat → Bool, (∀ p ∈ before, sp p.block = true) → DataW.TrodAll enc P W' 0 sp true f.params.toList args.toList (s.fn H (ds ++ gs)).args pa)
    (hvars : ∀ sp : Nat → Bool, (∀ p ∈ before, sp p.block = true) → DataW.TrodVars enc P W' sp s.vars (s.fn H (ds ++ gs)).vars pv)
    (hps : before = pa ++ pv) (hB : Below W.heap.size W W')
    (hok : ∀ (j : Nat) (t : TypeId) (r : Value), f.resultTypes[j]? = some t → (v.resultList f.resultTypes.size)[j]? = some r → Value.okWide P W' .any 0 t r) :
    s.post enc P f apart fresh handsOn again W args v W' := by
  have hlt : ∀ p ∈ before, p.block < W.heap.size := fun p hp => by simpa using hW.lt p hp
  have hold : ∀ p ∈ before, (fun b => decide (b < W.heap.size)) p.block = true := fun p hp => by simpa using hlt p hp
  refine ⟨ds, gs, before, [], pa, pv, hW, hres _ _ _, hargs _ hold, hvars _ hold, World.keptBut_mono (fun p hp => ⟨hp, ?_⟩) (hB.frame _), fun _ => ?_⟩
  · rw [hps, List.mem_append] at hp
    exact Or.inr hp
  · obtain ⟨_, _, _, _, _, hz, hn⟩ := hW
    refine ⟨hok, _, _, ([] ++ pa) ++ pv, ⟨[] ++ pa, pv, trodAll_append (hargs _ (fun _ _ => rfl)) (hres _ _ _), hvars _ (fun _ _ => rfl), rfl, ?_, ?_⟩, ?_⟩
    · intro b off hp
      have hp' : MemPlace.cell b off ∈ before := by rw [hps]; simpa using hp
      rw [hB.frozen (p := ⟨b, off, none⟩) (hlt _ hp')]
      exact hz b off hp'
    · intro ha
      have := hn ha
      rw [hps] at this
      simpa using this
    · intro p hp _
      rw [hps]
      simpa using hp
end

section
open Go.WideMaps
variable {H : Type} {enc : TypeId × Value → H} {P : Program} {k e : TypeId} {q : IntKind} {W : World} {base : Nat} {sp : Nat → Bool} {held : Bool}
/-- Four numbers. -/
theorem open_quad (A : ArrKey P k e 4) (he : P.underlying e = some (.int q)) {r : Reach} {b0 : Nat} {v : Value} {d : DataW H} {ps : List MemPlace} (hval : Value.okWide P W r b0 k v) (hd : DataW.Trod enc P W base sp held k v d ps) :
    ∃ x0 x1 x2 x3 : Int, v = .agg #[.int q x0, .int q x1, .int q x2, .int q x3] ∧ d = .agg [.lit (.int q x0), .lit (.int q x1), .lit (.int q x2), .lit (.int q x3)] ∧ ps = [] ∧
      (Lit.int q x0).wf = true ∧ (Lit.int q x1).wf = true ∧ (Lit.int q x2).wf = true ∧ (Lit.int q x3).wf = true := by
  obtain ⟨c0, c1, c2, c3, rfl⟩ : ∃ c0 c1 c2 c3, v = .agg #[c0, c1, c2, c3] := by
    simp only [Value.okWide, A.hu] at hval
    obtain ⟨cs, h1, h2, _⟩ := hval
    rw [A.size] at h2
    obtain ⟨l⟩ := cs
    match l, h2 with
    | [c0, c1, c2, c3], _ => exact ⟨c0, c1, c2, c3, h1⟩
  obtain ⟨fuel, hf⟩ := hd
  cases fuel with
  | zero => simp [DataW.trod] at hf
  | succ n =>
    rw [DataW.trod_step] at hf
    unfold DataW.trodStep at hf
    simp only [A.hu, Value.cells] at hf
    rw [if_pos (by rw [A.size]; rfl)] at hf
    simp only [Option.map_eq_some_iff] at hf
    obtain ⟨xs, hx, e1⟩ := hf
    rw [show List.range 4 = [0, 1, 2, 3] from rfl, List.mapM_cons, List.mapM_cons, List.mapM_cons, List.mapM_cons, List.mapM_nil] at hx
    simp only [bind, Option.bind_eq_some_iff, pure, Option.some.injEq, A.one] at hx
    obtain ⟨y0, h0, _, ⟨y1, h1, _, ⟨y2, h2, _, ⟨y3, h3, _, rfl, rfl⟩, rfl⟩, rfl⟩, rfl⟩ := hx
    obtain ⟨x0, e0, rfl, w0⟩ := DataW.trod_int he h0
    obtain ⟨x1, e1', rfl, w1⟩ := DataW.trod_int he h1
    obtain ⟨x2, e2, rfl, w2⟩ := DataW.trod_int he h2
    obtain ⟨x3, e3, rfl, w3⟩ := DataW.trod_int he h3
    simp at e0 e1' e2 e3
    subst e0; subst e1'; subst e2; subst e3
    simp only [Prod.mk.injEq] at e1
    exact ⟨x0, x1, x2, x3, rfl, by rw [← e1.1]; rfl, by rw [← e1.2]; rfl, w0, w1, w2, w3⟩
theorem shut_quad (A : ArrKey P k e 4) (he : P.underlying e = some (.int q)) {x0 x1 x2 x3 : Int} (w0 : (Lit.int q x0).wf = true) (w1 : (Lit.int q x1).wf = true) (w2 : (Lit.int q x2).wf = true) (w3 : (Lit.int q x3).wf = true) :
    DataW.Trod enc P W base sp held k (.agg #[.int q x0, .int q x1, .int q x2, .int q x3]) (.agg [.lit (.int q x0), .lit (.int q x1), .lit (.int q x2), .lit (.int q x3)]) [] :=
  ⟨2, by
    show DataW.trod enc P W base sp held (1 + 1) k [.int q x0, .int q x1, .int q x2, .int q x3] = _
    rw [DataW.trod_step]
    unfold DataW.trodStep
    simp only [A.hu]
    rw [if_pos (by rw [A.size]; rfl), show List.range 4 = [0, 1, 2, 3] from rfl, List.mapM_cons, List.mapM_cons, List.mapM_cons, List.mapM_cons, List.mapM_nil]
    simp [A.one, DataW.trod, he, w0, w1, w2, w3]⟩
end
end Go.Eng

/- What a row asks behind a call that is handed a slice of whole numbers and leaves it as it was. -/
namespace Go.Eng
open Go Go.ChangeShapes Go.WideShapes Go.ChangeAt Go.RowKit

theorem cell_lt {W : World} {a : Addr} {v : Value} (h : W.cell? a = some v) : a.block < W.heap.size := by
  rcases Nat.lt_or_ge a.block W.heap.size with hl | hl
  · exact hl
  · simp [World.cell?, Array.getElem?_eq_none hl] at h

theorem slice_cells {ba ba' : Option Addr} {n c n' c' : Nat} (h : (Value.slice ba n c).cells.toList = [.slice ba' n' c']) : Value.slice ba n c = .slice ba' n' c' := by
  simpa [Value.cells] using h
theorem shut_nil {H : Type} {enc : TypeId × Value → H} {P : Program} {t e : TypeId} {W : World} {b : Nat} {sp : Nat → Bool} {hd : Bool} (ht : P.underlying t = some (.slice e)) : DataW.Trod enc P W b sp hd t (.slice none 0 0) .nil [] := by
  refine ⟨1, ?_⟩
  show DataW.trod enc P W b sp hd (0 + 1) t [.slice none 0 0] = _
  rw [DataW.trod_step]
  unfold DataW.trodStep
  simp [ht]
/-- A slice that came in, as a block. -/
def envS (b off len cap : Nat) : Env := { blk := fun _ => b, delta := fun _ => off, len := fun _ => len, cap := fun _ => cap, isnil := fun _ => false, base := fun _ => none }
theorem holdsS {W : World} {b off len cap : Nat} {k : IntKind} {xs : List Int} (hx : xs.length = len) (hc : len ≤ cap) (hcell : ∀ (i : Nat) x, xs[i]? = some x → W.cell? ⟨b, off + i, none⟩ = some (.int k x)) :
    Holds (envS b off len cap) [.rs true 1 (.ints k xs)] W := by
  refine ⟨fun i blk hb => ?_, fun i j x y hi _ hm => ?_⟩
  · cases i with
    | zero =>
      simp only [List.getElem?_cons_zero, Option.some.injEq] at hb
      subst hb
      refine ⟨?_, by omega, by simp [envS, Row.len, hx], hc, fun h => by simp [envS] at h, fun _ i v hv => ?_⟩
      · rw [inSs_eq, List.all_eq_true]; intro v hv; obtain ⟨z, _, rfl⟩ := List.mem_map.1 hv; rfl
      · simp only [Row.toVs, List.getElem?_map, Option.map_eq_some_iff] at hv
        obtain ⟨z, hz, rfl⟩ := hv
        exact hcell i z hz
    | succ i => simp at hb
  · cases i with
    | zero => simp only [List.getElem?_cons_zero, Option.some.injEq] at hi; subst hi; cases hm
    | succ i => simp at hi
theorem Trans.below_ro {E E' : Env} {h h' : List Blk} {W W' : World} (hm : ∀ (b : Nat) blk, h[b]? = some blk → blk.mine = false) (t : Trans E h W E' h' W') : RowKit.Below W.heap.size W W' :=
  ⟨t.os, t.tape, t.output, t.size, fun k hk => t.frame k hk (fun ⟨b, blk, hb, h1, _⟩ => by rw [hm b blk hb] at h1; cases h1)⟩

/-- The reading of a slice of whole numbers stays, where all that was there stays. -/
theorem keep_ints {H : Type} {enc : TypeId × Value → H} {P : Program} {t e : TypeId} {k : IntKind} {W W' : World} {a : Addr} {len cap : Nat} {zs : List Int} {sp : Nat → Bool} {hd : Bool} (ht : P.underlying t = some (.slice e)) (he : P.underlying e = some (.int k)) (hc : P.cellsOf e = 1)
    (hB : RowKit.Below W.heap.size W W') (hl : len ≤ cap) (hm : cap ≤ maxLen) (hz : zs.length = cap) (hcell : ∀ i, i < zs.length → W.cell? (a.add i) = some (.int k (zs.getD i 0))) (hw : ∀ n ∈ zs, (Lit.int k n).wf = true)
    (hsp : ∀ p ∈ MemPlace.row a zs.length, sp p.block = true) : DataW.Trod enc P W' 0 sp hd t (.slice (some a) len cap) (.slice (lits k (zs.take len)) (lits k (zs.drop len))) (MemPlace.row a zs.length) := by
  refine ⟨2, shut_ints 0 ht he hc (Nat.zero_le _) hl hm ?_ (fun i hi => ?_) hw⟩
  · rcases Nat.eq_zero_or_pos zs.length with h0 | h0
    · have : cap = 0 := by omega
      have : len = 0 := by omega
      split <;> omega
    · obtain ⟨b, off, rfl, _⟩ := ints_at hcell h0
      rw [if_pos]
      · exact hz
      · exact hsp (.cell b (off + 0)) (MemPlace.mem_row.2 ⟨0, h0, rfl⟩)
  · rw [hB.cell (cell_lt (hcell i hi))]
    exact hcell i hi
end Go.Eng

/- ENGINE, PART 18: contracts of the library's functions, as the engine takes them. -/
namespace Go.Eng
open Go

theorem pure_of_drew {P : Program} {f : FuncId} {args : List V} {v : V} (he : Enterable P f) (ha : plainVs args = true) (hv : plainV v = true)
    (h : ∀ w, Calls P f (concs env0 args).toArray w fun e w' => e = .returned (conc env0 v) ∧ ∃ n, w' = w.drewN n) : FnPure P f args v := by
  refine ⟨he, fun hp E W hh _ => ?_⟩
  have h1 := h W
  rw [(plainVs_conc (E := env0) (E' := E) (n := 0) args ha).1] at h1
  refine h1.mono ?_
  rintro e w' ⟨rfl, n, rfl⟩
  obtain ⟨q1, q2⟩ := plainV_conc (E := env0) (E' := E) (n := hp.length) v hv
  refine ⟨_, E, rfl, .inr ⟨q2, q1⟩, ?_⟩
  have key : ∀ (n : Nat) (W : World), Holds E hp W → Holds E hp (W.drewN n) ∧ Trans E hp W E hp (W.drewN n) := by
    intro n
    induction n with
    | zero => intro W hh; exact ⟨hh, Trans.refl _ _ _⟩
    | succ n ih =>
      intro W hh
      obtain ⟨a, b⟩ := ih W hh
      exact ⟨a.drew, b.trans Trans.drew⟩
  exact key n W hh
theorem pure_of_same {P : Program} {f : FuncId} {args : List V} {v : V} (he : Enterable P f) (ha : plainVs args = true) (hv : plainV v = true)
    (h : ∀ w, Calls P f (concs env0 args).toArray w fun e w' => e = .returned (conc env0 v) ∧ w' = w) : FnPure P f args v :=
  pure_of_drew he ha hv fun w => (h w).mono (by rintro e w' ⟨h1, rfl⟩; exact ⟨h1, 0, rfl⟩)

/-- What was there stays: the abstract heap too. -/
theorem Holds.below {E : Env} {h : List Blk} {W W' : World} (hh : Holds E h W) (hB : RowKit.Below W.heap.size W W') : Holds E h W' ∧ Trans E h W E h W' :=
  ⟨hh.keep (Agree.refl _ _) hB.block, ⟨Agree.refl _ _, Nat.le_refl _, fun _ hk => .inl hk, fun k hk _ => hB.block k hk, hB.size, hB.os, hB.tape, hB.output⟩⟩

/-- The same, where the call makes memory that is not looked at. -/
theorem pure_of_below {P : Program} {f : FuncId} {args : List V} {v : V} (he : Enterable P f) (ha : plainVs args = true) (hv : plainV v = true)
    (h : ∀ w, Calls P f (concs env0 args).toArray w fun e w' => e = .returned (conc env0 v) ∧ RowKit.Below w.heap.size w w') : FnPure P f args v := by
  refine ⟨he, fun hp E W hh _ => ?_⟩
  have h1 := h W
  rw [(plainVs_conc (E := env0) (E' := E) (n := 0) args ha).1] at h1
  refine h1.mono ?_
  rintro e w' ⟨rfl, hB⟩
  obtain ⟨q1, q2⟩ := plainV_conc (E := env0) (E' := E) (n := hp.length) v hv
  obtain ⟨k1, k2⟩ := hh.below hB
  exact ⟨_, E, rfl, .inr ⟨q2, q1⟩, k1, k2⟩

/-! ### what a call has made may be forgotten -/
def blkPl : Blk → Bool
  | .glob _ r | .ro r | .rs _ _ r => rowPlain r
  | .dead => true
  | _ => false
theorem blkPl_ok {blk : Blk} (hp : blkPl blk = true) {E : Env} {n m b : Nat} {W : World} (hk : BlkOk E n W b blk) : BlkOk E m W b blk ∧ blk.mine = false := by
  cases blk <;> simp only [blkPl] at hp <;> try cases hp
  · exact ⟨hk, rfl⟩
  · exact ⟨⟨(rowPlain_ok hp E E m).1, hk.2⟩, rfl⟩
  · exact ⟨⟨hk.1, hk.2.1, (rowPlain_ok hp E E m).1, hk.2.2.2⟩, rfl⟩
  · exact ⟨⟨(rowPlain_ok hp E E m).1, hk.2⟩, rfl⟩
theorem FnOK.cut {P : Program} {f : FuncId} {args : List V} {h nb : List Blk} {v : V} (hk : FnOK P f args h v (h ++ nb)) (hp : h.all blkPl = true) (hv : plainV v = true) : FnOK P f args h v h := by
  intro E W hh hin
  refine (hk E W hh hin).mono ?_
  rintro e w' ⟨x, E', rfl, hx, hh', ht⟩
  have hat : ∀ (b : Nat) blk, h[b]? = some blk → (h ++ nb)[b]? = some blk ∧ blkPl blk = true := fun b blk hb =>
    ⟨by rw [List.getElem?_append_left (getElem?_lt hb)]; exact hb, List.all_eq_true.1 hp blk (List.mem_of_getElem? hb)⟩
  have hro : ∀ (b : Nat) blk, h[b]? = some blk → blk.mine = false := fun b blk hb => (blkPl_ok (m := 0) (hat b blk hb).2 (hh'.ok b blk (hat b blk hb).1)).2
  obtain ⟨q1, q2⟩ := plainV_conc (E := E') (E' := E') (n := h.length) v hv
  have hxx : VR E' h.length v x := by
    rcases hx with rfl | ⟨_, h2⟩
    · exact .inl rfl
    · exact .inr ⟨q2, h2⟩
  refine ⟨x, E', rfl, hxx, ⟨fun b blk hb => (blkPl_ok (hat b blk hb).2 (hh'.ok b blk (hat b blk hb).1)).1, fun b b' blk blk' hb _ hm => by rw [hro b blk hb] at hm; cases hm⟩, ?_⟩
  exact ⟨ht.agree, Nat.le_refl _, fun k hk => (by obtain ⟨b, blk, hb, hm, _⟩ := hk; rw [hro b blk hb] at hm; cases hm), ht.frame, ht.size, ht.os, ht.tape, ht.output⟩

def joinS (xs : List ByteArray) (sep : ByteArray) : ByteArray := { data := (Lib.join (xs.map fun x => x.data.toList) sep.data.toList).toArray }
def joinLen (xs : List ByteArray) (sep : ByteArray) : Nat := (Lib.join (xs.map fun x => x.data.toList) sep.data.toList).length
theorem join_fn {P : Program} {f : FuncId} {nn : Bool} {xs : List ByteArray} {sep : ByteArray}
    (H : ∀ (bk o c : Nat) (xs : List ByteArray) (sep : ByteArray) (w : World), (∀ (j : Nat) (x : ByteArray), xs[j]? = some x → w.cell? { block := bk, off := o + j } = some (Value.string x)) → bk < w.heap.size →
      xs.length ≤ 140737488355328 → xs.length ≤ c → (Lib.join (List.map (fun x => x.data.toList) xs) sep.data.toList).length ≤ 140737488355328 →
      Calls P f #[Value.slice (some { block := bk, off := o }) xs.length c, Value.string sep] w fun e w' =>
        e = Ending.returned (Value.string { data := (Lib.join (List.map (fun x => x.data.toList) xs) sep.data.toList).toArray }) ∧ RowKit.Below w.heap.size w w')
    (H0 : ∀ (a : Option Addr) (c : Nat) (sep : ByteArray) (w : World), Calls P f #[Value.slice a 0 c, Value.string sep] w fun e w' => e = Ending.returned (Value.string { data := #[] }) ∧ w' = w)
    (h1 : xs.length ≤ 140737488355328) (h2 : joinLen xs sep ≤ 140737488355328) :
    FnOK P f [.gs 0, .str sep] [.rs nn 1 (.strs xs)] (.str (joinS xs sep)) [.rs nn 1 (.strs xs)] := by
  intro E W hh _
  obtain ⟨_, _, k1, k2, k3, k4⟩ := hh.ok 0 _ rfl
  cases xs with
  | nil =>
    have hl : E.len 0 = 0 := by simp [Row.len] at k1; exact k1
    have hz : ∃ a c, concs E [V.gs 0, V.str sep] = [Value.slice a 0 c, Value.string sep] := by
      cases hn : E.isnil 0 with
      | true => exact ⟨E.base 0, 0, by simp [concs, conc, hn]⟩
      | false => exact ⟨_, E.cap 0, by simp [concs, conc, hn, hl]; rfl⟩
    obtain ⟨a, c, hz⟩ := hz
    rw [hz]
    refine (H0 a c sep W).mono ?_
    rintro e w' ⟨rfl, rfl⟩
    exact ⟨_, E, rfl, VR.mkStr, hh, Trans.refl _ _ _⟩
  | cons x r =>
    have hn : E.isnil 0 = false := by
      cases hn : E.isnil 0 with
      | false => rfl
      | true => have := (k3 hn).1; simp [Row.len] at this
    have hl : E.len 0 = (x :: r).length := by simpa [Row.len] using k1
    have hcell : ∀ (j : Nat) (y : ByteArray), (x :: r)[j]? = some y → W.cell? { block := E.blk 0, off := E.delta 0 + j } = some (Value.string y) := fun j y hj => by
      have := k4 hn j (.str y) (by simp only [Row.toVs, List.getElem?_map, hj]; rfl)
      exact this
    have hb : E.blk 0 < W.heap.size := World.block_lt_of_cell? _ _ (hcell 0 x rfl)
    have hc := H (E.blk 0) (E.delta 0) (E.cap 0) (x :: r) sep W hcell hb h1 (by omega) h2
    have hz : (concs E [V.gs 0, V.str sep]).toArray = #[Value.slice (some { block := E.blk 0, off := E.delta 0 }) (x :: r).length (E.cap 0), Value.string sep] := by
      simp only [concs, conc, hn, cond_false, hl]
    rw [hz]
    refine hc.mono ?_
    rintro e w' ⟨rfl, hB⟩
    obtain ⟨q1, q2⟩ := hh.below hB
    exact ⟨_, E, rfl, VR.mkStr, q1, q2⟩
end Go.Eng

/- ENGINE, PART 17c: functions known over heaps of their own: what they read, and the one block that they lay. -/
namespace Go.Eng
open Go

section
variable {R : Type}
theorem locK_bind (x : V) (H : List Blk) (i : Nat) (K : V → List Blk → Option R) : locK x H i K = (locK x H i (fun a b => some (a, b))).bind (fun p => K p.1 p.2) := by
  unfold locK
  simp only [cond_eq_ite]
  repeat' split
  all_goals first
    | rfl
    | simp_all
theorem locN_bind (nr : Option Row) (x : V) (H : List Blk) (i : Nat) (K : V → List Blk → Option R) : locN nr x H i K = (locN nr x H i (fun a b => some (a, b))).bind (fun p => K p.1 p.2) := by
  unfold locN
  split
  · split
    · rfl
    · exact locK_bind x H i K
  · exact locK_bind x H i K
theorem locAs_bind (nr : Option Row) : ∀ (args : List V) (R : Type) (H h : List Blk) (K : List V → List Blk → Option R), locAs nr args H h K = (locAs nr args H h (fun a b => some (a, b))).bind (fun p => K p.1 p.2)
  | [], R, H, h, K => rfl
  | x :: r, R, H, h, K => by
    simp only [locAs]
    rw [locN_bind nr x H h.length (fun x' nb => locAs nr r H (h ++ nb) (fun r' h' => K (x' :: r') h')), locN_bind nr x H h.length (fun x' nb => locAs nr r H (h ++ nb) (fun r' h' => some (x' :: r', h')))]
    cases locN nr x H h.length (fun a b => some (a, b)) with
    | none => rfl
    | some p =>
      simp only [Option.bind_some]
      rw [locAs_bind nr r R H (h ++ p.2) (fun r' h' => K (p.1 :: r') h'), locAs_bind nr r _ H (h ++ p.2) (fun r' h' => some (p.1 :: r', h'))]
      cases locAs nr r H (h ++ p.2) (fun a b => some (a, b)) with
      | none => rfl
      | some q => rfl
def nmVs : List V → List Nat
  | [] => []
  | x :: r => nameOf x ++ nmVs r
theorem locK_nm {x : V} {H H2 : List Blk} {i : Nat} {K : V → List Blk → Option R} (he : ∀ b ∈ nameOf x, H2[b]? = H[b]?) : locK x H2 i K = locK x H i K := by
  cases x
  case gs b => unfold locK; simp only [getB_nm (he b (by simp [nameOf]))]
  case view b l sz2 len => unfold locK; simp only [getB_nm (he b (by simp [nameOf]))]
  case aslice b off len cap => unfold locK; simp only [getB_nm (he b (by simp [nameOf]))]
  all_goals (unfold locK; rfl)
theorem locN_nm {nr : Option Row} {x : V} {H H2 : List Blk} {i : Nat} {K : V → List Blk → Option R} (he : ∀ b ∈ nameOf x, H2[b]? = H[b]?) : locN nr x H2 i K = locN nr x H i K := by
  unfold locN
  split
  · split
    · rfl
    · exact locK_nm he
  · exact locK_nm he
theorem locAs_nm {nr : Option Row} {H H2 : List Blk} : ∀ {args : List V} {h : List Blk} {K : List V → List Blk → Option R}, (∀ b ∈ nmVs args, H2[b]? = H[b]?) → locAs nr args H2 h K = locAs nr args H h K
  | [], h, K, _ => rfl
  | x :: r, h, K, he => by
    simp only [locAs]
    rw [locN_nm (H := H) (fun b hb => he b (by simp [nmVs, hb]))]
    congr 1
    funext x' nb
    exact locAs_nm (fun b hb => he b (by simp [nmVs, hb]))
def hOrcP (nr : FuncId → Option Row) (T : HTab) : Oracle := fun _ t args H K => match t with
  | .fn f => locAs (nr f) args H [] (fun args' h => match T f args' h with
    | some (c, v, nb) => cond c (match nb with
      | [] => match plainV v with
        | true => K v (nmVs args) .none
        | false => none
      | [.grow nn ty sz row] => match v with
        | .gs b => match Nat.beq b h.length && rowPlain row with
          | true => K (.gs H.length) (nmVs args) (.push H.length (.grow nn ty sz row))
          | false => none
        | _ => none
      | nb => match freshBs h.length nb && fromV h.length v with
        | true => K (shV h.length H.length v) [] (.all (H ++ shBs h.length H.length nb))
        | false => none) none
    | none => none)
  | .yield _ => none
/-- What a contract over its own heap gives in the caller's memory. -/
theorem loc_call {P : Program} {T : HTab} (hT : HTabOk P T) {nr : Option Row} {f : FuncId} {args args' : List V} {H h nb : List Blk} {v : V} (hl : locAs nr args H [] (fun a b => some (a, b)) = some (args', h)) (hq : T f args' h = some (true, v, nb)) :
    ∀ E W, Holds E H W → inSs H.length args = true → ∃ E1, Holds E1 h W ∧ (∀ (b : Nat) blk, h[b]? = some blk → blk.mine = false) ∧ Calls P f (concs E args).toArray W (EndsIn E1 W h v (h ++ nb)) := by
  intro E W hh hin
  obtain ⟨a2, h2, hk, HL⟩ := locAs_ok hl
  cases hk
  obtain ⟨E1, _, _, g1, g2, g3, g4⟩ := HL E W hh hin { blk := fun _ => 0, delta := fun _ => 0, len := fun _ => 0, cap := fun _ => 0, isnil := fun _ => false, base := fun _ => none } ⟨fun b blk hb => by simp at hb, fun b b' blk blk' hb => by simp at hb⟩ (fun b blk hb => by simp at hb)
  obtain ⟨_, hfn⟩ := hT f args' h true v nb hq rfl
  have := hfn E1 W g1 g3
  rw [g2] at this
  exact ⟨E1, g1, g4, this⟩
theorem keeps_of {E E' : Env} {h h' : List Blk} {W W' : World} (hm : ∀ (b : Nat) blk, h[b]? = some blk → blk.mine = false) (t : Trans E h W E' h' W') : Keeps W W' := by
  have hB := Trans.below_ro hm t
  exact ⟨hB.block, hB.size, hB.os, hB.tape, hB.output⟩
theorem Keeps.below {W W' : World} (h : Keeps W W') : RowKit.Below W.heap.size W W' := ⟨h.os, h.tape, h.output, h.size, h.block⟩
/-- A block that a call has laid, by its own name. -/
theorem born_blk {E1 E2 E : Env} {h : List Blk} {W W' : World} {nn : Bool} {ty : TypeId} {sz : Nat} {row : Row} (hr : rowPlain row = true) (hm : ∀ (b : Nat) blk, h[b]? = some blk → blk.mine = false)
    (h2 : Holds E2 (h ++ [.grow nn ty sz row]) W') (t : Trans E1 h W E2 (h ++ [.grow nn ty sz row]) W') (n : Nat) :
    (∀ q, BlkOk (E.one n (E2.blk h.length) (E2.delta h.length) (E2.len h.length) (E2.cap h.length) (E2.isnil h.length) (E2.base h.length)) q W' n (.grow nn ty sz row)) ∧
    (liveAt (E.one n (E2.blk h.length) (E2.delta h.length) (E2.len h.length) (E2.cap h.length) (E2.isnil h.length) (E2.base h.length)) n (.grow nn ty sz row) = true → W.heap.size ≤ E2.blk h.length) := by
  have hb : (h ++ [Blk.grow nn ty sz row])[h.length]? = some (.grow nn ty sz row) := by simp
  obtain ⟨hd, _, hz, hl, hcap, hnil, hc⟩ := h2.ok h.length _ hb
  refine ⟨fun q => ⟨by simp [Env.one, hd], (rowPlain_ok hr E E q).1, hz, by simp [Env.one, hl], by simp [Env.one, hcap], fun hn => hnil (by simpa [Env.one] using hn), fun hn => ?_⟩, fun hlv => ?_⟩
  · obtain ⟨fz, spare, hfz, hsp, hcc⟩ := hc (by simpa [Env.one] using hn)
    refine ⟨fz, spare, hfz, by simp only [Env.one, if_true]; exact hsp, ?_⟩
    simp only [Env.one, if_true]
    rw [hcc]
    congr 4
    have hpl := (rowPlain_ok hr E2 (E.one n (E2.blk h.length) (E2.delta h.length) (E2.len h.length) (E2.cap h.length) (E2.isnil h.length) (E2.base h.length)) 0).2
    rw [concs_eq, concs_eq]
    apply List.ext_getElem?
    intro j
    rw [List.getElem?_map, List.getElem?_map]
    cases hj : row.toVs[j]? with
    | none => rfl
    | some u =>
      simp only [Option.map_some]
      exact congrArg some (hpl j u hj)
  · have hlive : liveAt E2 h.length (.grow nn ty sz row) = true := by simpa [liveAt, Env.one] using hlv
    rcases t.mine (E2.blk h.length) ⟨h.length, _, hb, rfl, hlive, rfl⟩ with ⟨b, blk, hb1, hm1, _⟩ | hge
    · rw [hm b blk hb1] at hm1; cases hm1
    · exact hge
/-- Of what a call has laid only the last block is looked at. -/
theorem FnOK.lastAt {P : Program} {f : FuncId} {args : List V} {h h' : List Blk} {j : Nat} {nn : Bool} {ty : TypeId} {sz : Nat} {row : Row} (hk : FnOK P f args h (.gs j) h') (hb : h'[j]? = some (.grow nn ty sz row)) (hr : rowPlain row = true)
    (hm : ∀ (b : Nat) blk, h[b]? = some blk → blk.mine = false) : FnOK P f args h (.gs h.length) (h ++ [.grow nn ty sz row]) := by
  intro E W hh hin
  refine (hk E W hh hin).mono ?_
  rintro e W' ⟨x, E2, rfl, hx, hh2, ht⟩
  obtain ⟨hd, _, hz, hl, hcap, hnil, hc⟩ := hh2.ok j _ hb
  obtain ⟨k1, k2⟩ := hh.below (keeps_of hm ht).below
  have hE := Agree.one E h.length (E2.blk j) (E2.delta j) (E2.len j) (E2.cap j) (E2.isnil j) (E2.base j)
  have hfresh : E2.isnil j = false → W.heap.size ≤ E2.blk j := fun hn => by
    have hlive : liveAt E2 j (.grow nn ty sz row) = true := by simp [liveAt, hn]
    rcases ht.mine (E2.blk j) ⟨_, _, hb, rfl, hlive, rfl⟩ with ⟨b, blk, hb1, hm1, _⟩ | hge
    · rw [hm b blk hb1] at hm1; cases hm1
    · exact hge
  refine ⟨x, _, rfl, .inr ⟨by simp [inS], ?_⟩, Holds.snoc (k1.keep hE fun _ _ => rfl) ⟨by simp [Env.one, hd], (rowPlain_ok hr E E _).1, hz, by simp [Env.one, hl], by simp [Env.one, hcap], fun hn => hnil (by simpa [Env.one] using hn), fun hn => ?_⟩ (fun b y hb1 hl1 hl2' _ he => ?_), ?_⟩
  · rw [(hx.val (by simp)).1]
    simp [conc, Env.one, hd]
  · obtain ⟨fz, spare, hfz, hsp, hcc⟩ := hc (by simpa [Env.one] using hn)
    refine ⟨fz, spare, hfz, by simp only [Env.one, if_true]; exact hsp, ?_⟩
    simp only [Env.one, if_true]
    rw [hcc]
    congr 4
    have hpl := (rowPlain_ok hr E2 (E.one h.length (E2.blk j) (E2.delta j) (E2.len j) (E2.cap j) (E2.isnil j) (E2.base j)) 0).2
    rw [concs_eq, concs_eq]
    apply List.ext_getElem?
    intro j
    rw [List.getElem?_map, List.getElem?_map]
    cases hj : row.toVs[j]? with
    | none => rfl
    | some u =>
      simp only [Option.map_some]
      exact congrArg some (hpl j u hj)
  · have h5 := hfresh (by simpa [liveAt, Env.one] using hl2')
    have h6 := (hh.ok b y hb1).lt (by rw [← liveAt_agree hE (getElem?_lt hb1)]; exact hl1)
    rw [hE.blk _ (getElem?_lt hb1)] at he
    simp only [Env.one, if_true] at he
    omega
  · refine ⟨hE, by simp, fun z hz => ?_, k2.frame, k2.size, k2.os, k2.tape, k2.output⟩
    obtain ⟨b', y, hb1, hm1, hl1, he1⟩ := hz
    rcases getElem?_snoc hb1 with hb1 | ⟨q3, q4⟩
    · have hlt := getElem?_lt hb1
      rw [liveAt_agree hE hlt] at hl1
      rw [hE.blk _ hlt] at he1
      exact .inl ⟨b', y, hb1, hm1, hl1, he1⟩
    · subst q3; subst q4
      simp only [Env.one, if_true] at he1
      have := hfresh (by simpa [liveAt, Env.one] using hl1)
      exact .inr (by omega)
theorem FnOK.last {P : Program} {f : FuncId} {args : List V} {h nb : List Blk} {nn : Bool} {ty : TypeId} {sz : Nat} {row : Row} (hk : FnOK P f args h (.gs (h.length + nb.length)) (h ++ (nb ++ [.grow nn ty sz row]))) (hr : rowPlain row = true)
    (hm : ∀ (b : Nat) blk, h[b]? = some blk → blk.mine = false) : FnOK P f args h (.gs h.length) (h ++ [.grow nn ty sz row]) :=
  hk.lastAt (by rw [← List.append_assoc, List.getElem?_append_right (by simp)]; simp) hr hm
/-- The slice that is handed back, alone. -/
def lastK (v : V) (h : List Blk) : Option (Bool × TypeId × Nat × Row) := match v with
  | .gs b => match getB h b with
    | .grow nn ty sz row => some (nn, ty, sz, row)
    | _ => none
  | _ => none
theorem lastK_fn {P : Program} {f : FuncId} {args : List V} {h h' : List Blk} {v : V} {nn : Bool} {ty : TypeId} {sz : Nat} {row : Row} (hl : lastK v h' = some (nn, ty, sz, row)) (hk : FnOK P f args h v h') (hr : rowPlain row = true)
    (hm : ∀ (b : Nat) blk, h[b]? = some blk → blk.mine = false) : FnOK P f args h (.gs h.length) (h ++ [.grow nn ty sz row]) := by
  unfold lastK at hl
  split at hl
  · split at hl
    · rename_i b nn' ty' sz' row' hb
      simp only [Option.some.injEq, Prod.mk.injEq] at hl
      obtain ⟨rfl, rfl, rfl, rfl⟩ := hl
      exact hk.lastAt (getB_some hb (by simp)) hr hm
    · cases hl
  · cases hl
/-- What a call has laid is not looked at. -/
theorem FnOK.plain {P : Program} {f : FuncId} {args : List V} {h h' : List Blk} {v : V} (hk : FnOK P f args h v h') (hv : plainV v = true) (hm : ∀ (b : Nat) blk, h[b]? = some blk → blk.mine = false) : FnOK P f args h v h := by
  intro E W hh hin
  refine (hk E W hh hin).mono ?_
  rintro e W' ⟨x, E2, rfl, hx, _, ht⟩
  obtain ⟨k1, k2⟩ := hh.below (keeps_of hm ht).below
  refine ⟨x, E, rfl, ?_, k1, k2⟩
  rcases hx with rfl | ⟨_, hx2⟩
  · exact .inl rfl
  · obtain ⟨p1, p2⟩ := plainV_conc (E := E2) (E' := E) (n := h.length) v hv
    exact .inr ⟨p2, by rw [hx2]; exact p1⟩
theorem hOrcP_ok {P : Program} {nr : FuncId → Option Row} {T : HTab} (hT : HTabOk P T) : OracleOk P (hOrcP nr T) := by
  intro R t args H K r hr
  unfold hOrcP at hr
  split at hr
  · rename_i f
    rw [locAs_bind] at hr
    cases hl : locAs (nr f) args H [] (fun a b => some (a, b)) with
    | none => rw [hl] at hr; cases hr
    | some p =>
      obtain ⟨args', h⟩ := p
      rw [hl] at hr
      simp only [Option.bind_some] at hr
      have hl2 : ∀ H2, (∀ b ∈ nmVs args, H2[b]? = H[b]?) → locAs (nr f) args H2 [] (fun a b => some (a, b)) = some (args', h) := fun H2 he => by rw [locAs_nm he]; exact hl
      split at hr
      · rename_i c v nb hq
        cases c with
        | false => cases hr
        | true =>
          rw [cond_true] at hr
          have hent := (hT f args' h true v nb hq rfl).1
          split at hr
          · split at hr
            · rename_i hpv
              refine ⟨v, _, _, hr, fun _ _ => rfl, hent, fun h2 hs => ?_, fun _ _ he => (by cases he)⟩
              intro E W hh hin
              obtain ⟨E1, _, hm, hcall⟩ := loc_call hT (hl2 h2 hs) hq E W hh hin
              refine hcall.mono ?_
              rintro e W' ⟨x, E2, rfl, hx, _, ht⟩
              obtain ⟨k1, k2⟩ := hh.below (keeps_of hm ht).below
              refine ⟨x, E, rfl, ?_, k1, k2⟩
              rcases hx with rfl | ⟨_, hx2⟩
              · exact .inl rfl
              · obtain ⟨p1, p2⟩ := plainV_conc (E := E2) (E' := E) (n := h2.length) v hpv
                exact .inr ⟨p2, by rw [hx2]; exact p1⟩
            · cases hr
          · rename_i nn ty sz row
            split at hr
            · rename_i b
              split at hr
              · rename_i hc
                simp only [Bool.and_eq_true] at hc
                have hbl := Nat.eq_of_beq_eq_true hc.1
                subst hbl
                have key : ∀ h2, (∀ b ∈ nmVs args, h2[b]? = H[b]?) → ∀ n E W, Holds E h2 W → inSs h2.length args = true → Calls P f (concs E args).toArray W (BornEnd E W (.gs n) n (.grow nn ty sz row)) := by
                  intro h2 hs n E W hh hin
                  obtain ⟨E1, _, hm, hcall⟩ := loc_call hT (hl2 h2 hs) hq E W hh hin
                  refine hcall.mono ?_
                  rintro e W' ⟨x, E2, rfl, hx, hh2, ht⟩
                  obtain ⟨q1, q2⟩ := born_blk (E := E) hc.2 hm hh2 ht n
                  refine ⟨_, _, _, _, _, _, ?_, keeps_of hm ht, q1, q2⟩
                  rw [(hx.val (by simp)).1]
                  have hok : BlkOk E2 _ W' h.length (.grow nn ty sz row) := hh2.ok h.length (.grow nn ty sz row) (by simp)
                  have hd : E2.delta h.length = 0 := hok.1
                  simp [conc, Env.one, hd]
                refine ⟨_, _, _, hr, ⟨fun _ _ => rfl, rfl⟩, hent, fun h2 hs => ?_, fun n blk he => ?_⟩
                · intro E W hh hin
                  have hlen : h2.length = H.length := hs.2
                  refine (key h2 hs.1 H.length E W hh hin).mono ?_
                  rintro e W' ⟨k, dl, ln, cp, nl, ba, rfl, hK, q1, q2⟩
                  obtain ⟨k1, k2⟩ := hh.below hK.below
                  rw [← hlen] at q1 q2 ⊢
                  have hE := Agree.one E h2.length k dl ln cp nl ba
                  have hnew : Holds (E.one h2.length k dl ln cp nl ba) (h2 ++ [.grow nn ty sz row]) W' := by
                    refine Holds.snoc (k1.keep hE fun _ _ => rfl) (q1 _) (fun b x hb hl1 hl2' _ he => ?_)
                    have h5 := q2 (by simpa [liveAt] using hl2')
                    have h6 := (hh.ok b x hb).lt (by rw [← liveAt_agree hE (getElem?_lt hb)]; exact hl1)
                    rw [hE.blk _ (getElem?_lt hb)] at he
                    simp only [Env.one, if_true] at he
                    omega
                  refine ⟨_, E.one h2.length k dl ln cp nl ba, rfl, .inr ⟨by simp [inS, HEff.app], rfl⟩, hnew, ?_⟩
                  refine ⟨hE, by simp [HEff.app], fun z hz => ?_, k2.frame, k2.size, k2.os, k2.tape, k2.output⟩
                  obtain ⟨b', y, hb1, hm1, hl1, he1⟩ := hz
                  rcases getElem?_snoc hb1 with hb1 | ⟨q3, q4⟩
                  · have hlt := getElem?_lt hb1
                    rw [liveAt_agree hE hlt] at hl1
                    rw [hE.blk _ hlt] at he1
                    exact .inl ⟨b', y, hb1, hm1, hl1, he1⟩
                  · subst q3; subst q4
                    simp only [Env.one, if_true] at he1
                    have := q2 hl1
                    exact .inr (by omega)
                · cases he
                  exact ⟨fun q hq => by simp [inS, hq], fun h2 hs E W hh hin => key h2 hs H.length E W hh hin⟩
              · cases hr
            · cases hr
          · rename_i nb' _ _
            split at hr
            · rename_i hfr
              simp only [Bool.and_eq_true] at hfr
              refine ⟨_, _, _, hr, rfl, hent, fun h2 hs => ?_, fun _ _ he => (by cases he)⟩
              rw [show h2 = H from hs]
              intro E W hh hin
              obtain ⟨E1, g1, g4, hcall⟩ := loc_call hT hl hq E W hh hin
              refine hcall.mono ?_
              rintro e W' ⟨x, E2, rfl, hx, hh', ht⟩
              obtain ⟨q1, q2⟩ := fresh_holds hh hh' ht g4 hfr.1
              refine ⟨x, _, rfl, ?_, q1, q2⟩
              rcases hx with rfl | ⟨hx1, hx2⟩
              · exact .inl rfl
              · rw [List.length_append] at hx1
                obtain ⟨k1, k2⟩ := conc_sh (AgreeAt.join E E2 h.length H.length nb.length) v hx1 hfr.2
                refine .inr ⟨?_, by rw [hx2, k1]⟩
                simp only [HEff.app, List.length_append, shBs_eq, List.length_map]
                exact k2
            · cases hr
      · cases hr
  · cases hr
end
end Go.Eng

/- ENGINE, PART 17b: functions that return the first part of a slice of ours that they are handed. -/
namespace Go.Eng
open Go

abbrev RTab := FuncId → Option (IntKind × (List Int → Bool) × (List Int → Nat))
def RTabOk (P : Program) (T : RTab) : Prop := ∀ f k c g, T f = some (k, c, g) → Enterable P f ∧ (∀ l, g l ≤ l.length) ∧ ∀ nn l, c l = true → FnOK P f [.gs 0] [.rs nn 1 (.ints k l)] (.view 0 0 1 (g l)) [.rs nn 1 (.ints k l)]
def resOrc (T : RTab) : Oracle := fun _ t args H K => match t with
  | .fn f => match T f with
    | some (k, c, g) => match args with
      | [.gs b] => match getB H b with
        | .grow nn ty sz row => match Nat.beq sz 1, tidyR row with
          | true, .ints k' l => match decide (k' = k) with
            | true => cond (c l) (K (.gs H.length) [] (.all (aAppendA.appB (setB H b .dead) (.grow nn ty 1 (.ints k (List.take (g l) l)))))) none
            | false => none
          | _, _ => none
        | _ => none
      | _ => none
    | none => none
  | .yield _ => none
theorem resOrc_ok {P : Program} {T : RTab} (hT : RTabOk P T) : OracleOk P (resOrc T) := by
  intro R t args h K r hr
  unfold resOrc at hr
  split at hr
  · rename_i f
    split at hr
    · rename_i k c g hf
      obtain ⟨hent, hle, hfn⟩ := hT f k c g hf
      split at hr
      · rename_i b
        split at hr
        · rename_i nn ty sz row hb
          split at hr
          · rename_i k' l hsz htd
            split at hr
            · rename_i hk
              simp only [decide_eq_true_eq] at hk
              subst hk
              have hsz := Nat.eq_of_beq_eq_true hsz
              subst hsz
              have hb := getB_some hb (by simp)
              cases hcl : c l with
              | false => rw [hcl] at hr; cases hr
              | true =>
              rw [hcl, cond_true] at hr
              refine ⟨_, _, _, hr, rfl, hent, fun h2 hs => ?_, fun _ _ he => (by cases he)⟩
              rw [show h2 = h from hs]
              intro E W hh hin
              have hvs : row.toVs = l.map (.int k') := by rw [← tidyR_ok, htd]; rfl
              have hrl : row.len = l.length := by rw [Row.len_eq, hvs, List.length_map]
              obtain ⟨hd, hs0, hz, hl, hcap, hnil, hc⟩ := hh.ok b _ hb
              rw [hrl, Nat.mul_one] at hl
              have h0 : Holds E ([] : List Blk) W := ⟨fun b blk hb => by simp at hb, fun b b' blk blk' hb => by simp at hb⟩
              obtain ⟨q1, q2⟩ := h0.lend (fun b blk hb => by simp at hb) (blk := E.blk b) (delta := E.delta b) (len := E.len b) (cap := E.cap b) (nil := E.isnil b) (ba := E.base b) (nn := nn) (sz := 1) (row := .ints k' l) (by
                refine ⟨rowIn_ok (n := _) (row := .ints k' l) rfl, by omega, by simp [Env.one, Row.len, hl], by simp [Env.one, hcap], fun hn => ?_, fun hn j v hj => ?_⟩
                · simp only [Env.one, if_true, List.length_nil] at hn
                  have := hnil hn
                  exact ⟨by rw [hrl] at this; exact this.1, this.2⟩
                · have hv : v = .int k' ((l[j]?).getD 0) := by
                    simp only [Row.toVs, List.getElem?_map, Option.map_eq_some_iff] at hj
                    obtain ⟨z, h1, h2⟩ := hj
                    rw [h1, ← h2]; rfl
                  have hcell := (hh.cell hb (v := v) (by show row.toVs[j]? = some v; rw [hvs]; exact hj)).1
                  rw [hv] at hcell ⊢
                  simpa [Env.one, conc] using hcell)
              have hcall := hfn nn l hcl (E.one 0 (E.blk b) (E.delta b) (E.len b) (E.cap b) (E.isnil b) (E.base b)) W q1 rfl
              have hargs : concs (E.one 0 (E.blk b) (E.delta b) (E.len b) (E.cap b) (E.isnil b) (E.base b)) [.gs 0] = concs E [.gs b] := by simp [concs, conc, Env.one]
              rw [hargs] at hcall
              refine hcall.mono ?_
              rintro e W' ⟨x, E2, rfl, hx, _, ht⟩
              have hB := Trans.below_ro (fun b' blk' hb' => by
                simp only [List.nil_append] at q2
                exact q2 b' blk' hb') ht
              obtain ⟨k1, k2⟩ := hh.below hB
              have hxe := (hx.val (by simp)).1
              have a1 := ht.agree.blk 0 (by simp)
              have a2 := ht.agree.delta 0 (by simp)
              have a3 := ht.agree.cap 0 (by simp)
              have a4 := ht.agree.isnil 0 (by simp)
              have a5 := ht.agree.base 0 (by simp)
              simp only [Env.one, if_true] at a1 a2 a3 a4 a5
              obtain ⟨_, _, _, _, _, _, hc'⟩ := k1.ok b _ hb
              have happ : aAppendA.appB (setB h b .dead) (.grow nn ty 1 (.ints k' (List.take (g l) l))) = setB h b .dead ++ [.grow nn ty 1 (.ints k' (List.take (g l) l))] := appB_eq _ _
              simp only [HEff.app]
              rw [happ]
              have hkill := k1.kill b
              have hlenk : (setB h b .dead).length = h.length := setB_len _ _ _
              have htl : (List.take (g l) l).length = g l := by rw [List.length_take]; have := hle l; omega
              cases hn : E.isnil b with
              | true =>
                have hl0 : l = [] := List.eq_nil_of_length_eq_zero (by rw [← hrl]; exact (hnil hn).1)
                have hg0 : g l = 0 := by have := hle l; rw [hl0] at this ⊢; simpa using this
                have hnn := (hnil hn).2
                subst hnn
                have hnew := hkill.1.snocA 0 0 0 true (E.base b) (nn := false) (e := ty) (sz := 1) (row := .ints k' (List.take (g l) l)) (by
                  refine ⟨by simp [Env.putA], rowIn_ok (n := _) (row := .ints k' _) rfl, by omega, by simp [Env.putA, Row.len, hg0], by simp [Env.putA], fun _ => ⟨by simp [Row.len, hg0], rfl⟩, fun hf => by simp [Env.putA] at hf⟩) (fun hf => by cases hf)
                rw [hlenk] at hnew
                refine ⟨x, _, rfl, .inr ⟨by simp [inS, hlenk], ?_⟩, hnew, ?_⟩
                · rw [hxe]; simp [conc, Env.putA, a4, a5, hn, hg0]
                · refine ⟨Agree.putA _ _ _ _ _ _ _, by rw [List.length_append, hlenk]; omega, fun z hz => ?_, k2.frame, k2.size, k2.os, k2.tape, k2.output⟩
                  obtain ⟨b', y, hb1, hm1, hl1, he1⟩ := hz
                  rcases getElem?_snoc hb1 with hb1 | ⟨q3, q4⟩
                  · have hlt := getElem?_lt hb1
                    rw [hlenk] at hlt
                    rw [liveAt_agree (Agree.putA _ _ _ _ _ _ _) hlt] at hl1
                    rw [(Agree.putA E h.length 0 0 0 true (E.base b)).blk _ hlt] at he1
                    exact (k2.trans hkill.2).mine z ⟨b', y, hb1, hm1, hl1, he1⟩
                  · rw [hlenk] at q3
                    subst q3; subst q4; simp [liveAt, Env.putA] at hl1
              | false =>
                have hlb : liveAt E b (.grow nn ty 1 row) = true := by simp [liveAt, hn]
                have hlive := kill_live k1 hb rfl hlb
                obtain ⟨fz, spare, hfz, hsp, hcc⟩ := hc' hn
                have hsplit : concs E row.toVs ++ spare = concs E (Row.ints k' (List.take (g l) l)).toVs ++ (concs E ((List.drop (g l) l).map (.int k')) ++ spare) := by
                  rw [hvs, ← List.append_assoc, ← concs_append]
                  congr 2
                  simp only [Row.toVs]
                  rw [← List.map_append, List.take_append_drop]
                have hdl : (concs E ((List.drop (g l) l).map (.int k'))).length = l.length - g l := by rw [concs_eq, List.length_map, List.length_map, List.length_drop]
                have hgl := hle l
                have hnew := hkill.1.snocA (E.blk b) (g l) (E.cap b) false none (nn := nn) (e := ty) (sz := 1) (row := .ints k' (List.take (g l) l)) (by
                  refine ⟨by simp [Env.putA], rowIn_ok (n := _) (row := .ints k' _) rfl, by omega, by simp [Env.putA, Row.len, htl], by simp [Env.putA]; omega, fun hf => by simp [Env.putA] at hf, fun _ => ⟨fz, concs E ((List.drop (g l) l).map (.int k')) ++ spare, fun o ho => hfz o ?_, ?_, ?_⟩⟩
                  · rw [List.length_append, hdl] at ho
                    simp only [Row.len, htl] at ho
                    rw [hrl]; omega
                  · rw [List.length_append, hdl]
                    simp only [Row.len, htl, Env.putA, if_true]
                    rw [hrl] at hsp; omega
                  · simp only [Env.putA, if_true]
                    rw [hcc, hsplit]
                    congr 4
                    simp only [concs_eq, Row.toVs, List.map_map]
                    rfl) (fun _ b' y hb' hl' => hlive b' y hb' hl')
                rw [hlenk] at hnew
                refine ⟨x, _, rfl, .inr ⟨by simp [inS, hlenk], ?_⟩, hnew, ?_⟩
                · rw [hxe]; simp [conc, Env.putA, a1, a2, a3, a4, hn, hd]
                · refine ⟨Agree.putA _ _ _ _ _ _ _, by rw [List.length_append, hlenk]; omega, fun z hz => ?_, k2.frame, k2.size, k2.os, k2.tape, k2.output⟩
                  obtain ⟨b', y, hb1, hm1, hl1, he1⟩ := hz
                  rcases getElem?_snoc hb1 with hb1 | ⟨q3, q4⟩
                  · have hlt := getElem?_lt hb1
                    rw [hlenk] at hlt
                    rw [liveAt_agree (Agree.putA _ _ _ _ _ _ _) hlt] at hl1
                    rw [(Agree.putA E h.length (E.blk b) (g l) (E.cap b) false none).blk _ hlt] at he1
                    exact (k2.trans hkill.2).mine z ⟨b', y, hb1, hm1, hl1, he1⟩
                  · rw [hlenk] at q3
                    subst q3; subst q4
                    simp only [Env.putA, if_true] at he1
                    exact .inl ⟨b, _, hb, rfl, hlb, he1⟩
            · cases hr
          · cases hr
        · cases hr
      · cases hr
    · cases hr
  · cases hr
/-- The whole slice is a first part of itself. -/
theorem FnOK.whole {P : Program} {f : FuncId} {args : List V} {h : List Blk} {nn : Bool} {k : IntKind} {l : List Int} (hf : FnOK P f args h (.gs 0) [.rs nn 1 (.ints k l)]) : FnOK P f args h (.view 0 0 1 l.length) [.rs nn 1 (.ints k l)] := by
  intro E W hh hin
  refine (hf E W hh hin).mono ?_
  rintro e W' ⟨x, E2, rfl, hx, hh2, ht⟩
  obtain ⟨_, _, hl, _, hnil, _⟩ := hh2.ok 0 _ rfl
  refine ⟨x, E2, rfl, .inr ⟨rfl, ?_⟩, hh2, ht⟩
  rw [(hx.val (by simp)).1]
  simp only [Row.len, Nat.mul_one] at hl hnil
  cases hn : E2.isnil 0 with
  | true => simp [conc, hn, (hnil hn).1]
  | false => simp [conc, hn, hl]
/-- One oracle for some functions, another one for the others. -/
def orElse (dom : FuncId → Bool) (A B : Oracle) : Oracle := fun R t args H K => match t with
  | .fn f => cond (dom f) (A R (.fn f) args H K) (B R (.fn f) args H K)
  | .yield b => B R (.yield b) args H K
theorem orElse_ok {P : Program} {dom : FuncId → Bool} {A B : Oracle} (hA : OracleOk P A) (hB : OracleOk P B) : OracleOk P (orElse dom A B) := by
  intro R t args h K r hr
  unfold orElse at hr
  split at hr
  · rename_i f
    cases hd : dom f with
    | true => rw [hd] at hr; exact hA R _ args h K r hr
    | false => rw [hd] at hr; exact hB R _ args h K r hr
  · exact hB R _ args h K r hr
end Go.Eng
