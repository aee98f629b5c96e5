/- ENGINE, PART 14: what a loop comes to, for a family of states at its head. -/
import Derived.Test.YtbocdcnkmcejjaaDoorEngGh
namespace Go.Eng
open Go

noncomputable def codesB (l : List (Code × Code)) : Bool := @decide (codesOk l) (Classical.propDecidable _)
theorem codesB_iff {l : List (Code × Code)} : codesB l = true ↔ codesOk l := by
  unfold codesB
  exact @decide_eq_true_iff _ (Classical.propDecidable _)

/-- What is not reckoned. -/
noncomputable def pB (p : Prop) : Bool := @decide p (Classical.propDecidable p)
theorem pB_iff {p : Prop} : pB p = true ↔ p := by unfold pB; exact @decide_eq_true_iff p (Classical.propDecidable p)

mutual
/-- The names that a template and a value have for the same blocks. -/
def pairsV : TV → V → List (Nat × Nat)
  | .ptr b _, .ptr b' _ => [(b, b')]
  | .gs b, .gs b' => [(b, b')]
  | .view b _, .view b' _ _ _ => [(b, b')]
  | .yield b, .yield b' => [(b, b')]
  | .func _ l, .func _ l' => pairsVs l l'
  | .agg l, .agg l' => pairsVs l l'
  | .tuple l, .tuple l' => pairsVs l l'
  | _, _ => []
def pairsVs : List TV → List V → List (Nat × Nat)
  | t :: r, v :: q => pairsV t v ++ pairsVs r q
  | _, _ => []
end
def pairsS : TS → List V → List (Nat × Nat)
  | none :: r, _ :: q => pairsS r q
  | some t :: r, v :: q => pairsV t v ++ pairsS r q
  | _, _ => []
def findN (b : Nat) : List (Nat × Nat) → Nat
  | [] => b
  | (a, c) :: r => bif Nat.beq a b then c else findN b r
/-- The images of i, i + 1, ..: the identity below the base, behind it as the slots say. -/
def images (n0 : Nat) (ps : List (Nat × Nat)) : Nat → Nat → List Nat
  | _, 0 => []
  | i, k + 1 => (bif Nat.blt i n0 then i else findN i ps) :: images n0 ps (i + 1) k
theorem images_len {n0 : Nat} {ps : List (Nat × Nat)} : ∀ {k i : Nat}, (images n0 ps i k).length = k
  | 0, _ => rfl
  | k + 1, i => by simp only [images, List.length_cons, images_len (k := k)]
def Tm.names (T : Tm) (n0 : Nat) (s : AS) : List Nat := images n0 (pairsS T.slots s.tmps) 0 T.blks.length
/-- The template against the state, its blocks under whatever names. -/
def Tm.find (T : Tm) (n0 : Nat) (s : AS) : Option (List PV × List (Code × Code)) := match fitsB n0 (T.names n0 s) s with
  | true => T.match (readS (T.names n0 s) s)
  | false => none
theorem Tm.find_ok {T : Tm} {n0 : Nat} {s : AS} {ps : List PV} {c : List (Code × Code)} (h : T.find n0 s = some (ps, c)) (hc : codesOk c) (hk : T.ok = true) : ∃ ρ, Sub n0 ρ s (T.at ps) := by
  unfold Tm.find at h
  split at h
  · rename_i hf
    exact ⟨_, Sub.of hf (by rw [T.at_len, Tm.names, images_len]) (T.match_ok h hc hk)⟩
  · cases h

/-- What a loop comes to: a tree of cases. -/
inductive Fin where
  | no
  | leaf (e : XE) (s : AS)
  | br (c : Bool) (t f : Fin)
def Fin.run {R : Type} (k : KC R) : Fin → Option R
  | .no => none
  | .leaf e s => k e s
  | .br c t f => cond c (t.run k) (f.run k)
def Fin.pick : Fin → Option (XE × AS)
  | .no => none
  | .leaf e s => some (e, s)
  | .br c t f => cond c t.pick f.pick
theorem Fin.run_ok {R : Type} {k : KC R} {r : R} : ∀ {f : Fin}, f.run k = some r → ∃ e s, f.pick = some (e, s) ∧ k e s = some r
  | .no, h => by cases h
  | .leaf e s, h => ⟨e, s, rfl, h⟩
  | .br c t f, h => by
    cases c with
    | true => exact Fin.run_ok (f := t) h
    | false => exact Fin.run_ok (f := f) h
/-- A loop's summary: from the template's states to what is claimed; n is the base for which that was shown; the other one where this one does not fit. -/
noncomputable def lsumE (n : Nat) (T : Tm) (body : Code) (fin : List PV → Fin) (els : LoopSum) : LoopSum := fun R n0 b s k => match Nat.beq n0 n with
  | true => match T.find n0 (s.ghost T) with
    | some (ps, c) => some (cond (codesB ((body, b) :: c)) ((fin ps).run k) none)
    | none => els R n0 b s k
  | false => els R n0 b s k
/-- The end of a chain of summaries: nothing is known; or the loop is unrolled. -/
def noSum : LoopSum := fun _ _ _ _ _ => some none
theorem noSum_ok {P : Program} : LoopOk P noSum := by intro R n0 b s k r h; cases h
def unroll : LoopSum := fun _ _ _ _ _ => none
theorem unroll_ok {P : Program} : LoopOk P unroll := by intro R n0 b s k r h; cases h
noncomputable def lsumF (n : Nat) (T : Tm) (body : Code) (fin : List PV → Fin) : LoopSum := lsumE n T body fin noSum
noncomputable def lsum (n : Nat) (T : Tm) (body : Code) (inv : List PV → Bool) (fin : List PV → XE × AS) : LoopSum := lsumF n T body (fun ps => .br (inv ps) (.leaf (fin ps).1 (fin ps).2) .no)
theorem lsumE_ok {P : Program} {n : Nat} {T : Tm} {body : Code} {fin : List PV → Fin} {els : LoopSum} (hk : T.ok = true) (H : ∀ rd ps e s, (fin ps).pick = some (e, s) → SimC P n rd (.loop body) (T.at ps) e s) (he : LoopOk P els) : LoopOk P (lsumE n T body fin els) := by
  intro R n0 b s k r hr
  unfold lsumE at hr
  split at hr
  · rename_i hn
    have hn := Nat.eq_of_beq_eq_true hn
    subst hn
    split at hr
    · rename_i ps c hm
      simp only [Option.some.injEq] at hr
      cases hc : codesB ((body, b) :: c) with
      | false => rw [hc] at hr; cases hr
      | true =>
        rw [hc, cond_true] at hr
        rw [codesB_iff] at hc
        have hb : body = b := hc (body, b) (by simp)
        subst hb
        obtain ⟨e, s1, h1, h2⟩ := Fin.run_ok hr
        obtain ⟨ρ, hs⟩ := T.find_ok hm (fun x hx => hc x (by simp [hx])) hk
        exact ⟨_, _, h2, fun rd => SimC.ghost ((H rd ps e s1 h1).pre hs)⟩
    · exact he _ _ _ _ _ _ hr
  · exact he _ _ _ _ _ _ hr
theorem lsumF_ok {P : Program} {n : Nat} {T : Tm} {body : Code} {fin : List PV → Fin} (hk : T.ok = true) (H : ∀ rd ps e s, (fin ps).pick = some (e, s) → SimC P n rd (.loop body) (T.at ps) e s) : LoopOk P (lsumF n T body fin) := lsumE_ok hk H noSum_ok
theorem lsum_ok {P : Program} {n : Nat} {T : Tm} {body : Code} {inv : List PV → Bool} {fin : List PV → XE × AS} (hk : T.ok = true) (H : ∀ rd ps, inv ps = true → SimC P n rd (.loop body) (T.at ps) (fin ps).1 (fin ps).2) : LoopOk P (lsum n T body inv fin) := by
  refine lsumF_ok hk fun rd ps e s h => ?_
  simp only [Fin.pick] at h
  cases hi : inv ps with
  | false => rw [hi] at h; cases h
  | true =>
    rw [hi, cond_true] at h
    cases h
    exact H rd ps hi

/-- One round, and what it comes to within the families: from T; on to T2, or out to T'. -/
def roundG (P : Program) (C : Oracle) (L : Loops) (N : Nat) (n0 : Nat) (rd : Option Nat) (me : FuncId) (c : Code) (T T2 T' : Tm) (ps : List PV) : Option (XE × List PV × List (Code × Code)) := evalCode P C L N n0 rd me c (T.at ps) (fun e s => match e with
  | .normal => match T2.find n0 (s.ghost T2) with
    | some a => some (e, a)
    | none => none
  | e => match T'.find n0 (s.ghost T') with
    | some a => some (e, a)
    | none => none)
def roundT (P : Program) (C : Oracle) (L : Loops) (N : Nat) (n0 : Nat) (rd : Option Nat) (me : FuncId) (c : Code) (T T' : Tm) (ps : List PV) : Option (XE × List PV × List (Code × Code)) := roundG P C L N n0 rd me c T T T' ps
theorem roundG_sim {P : Program} {C : Oracle} {L : Loops} {N n0 : Nat} {rd : Option Nat} {me : FuncId} {c : Code} {T T2 T' : Tm} {ps qs : List PV} {e : XE} {l : List (Code × Code)} (hC : OracleOk P C) (hm : P.follows .mixedOrders = true) (hl : loopsOk P L) (hk : T2.ok = true) (hk' : T'.ok = true)
    (h : roundG P C L N n0 rd me c T T2 T' ps = some (e, qs, l)) (hc : codesOk l) : (e = .normal → SimC P n0 rd c (T.at ps) e (T2.at qs)) ∧ (e ≠ .normal → SimC P n0 rd c (T.at ps) e (T'.at qs)) := by
  obtain ⟨e1, s1, h1, h2⟩ := evalCode_ok hC hm hl h
  have main : ∀ {U : Tm}, U.ok = true → U.find n0 (s1.ghost U) = some (qs, l) → SimC P n0 rd c (T.at ps) e1 (U.at qs) := fun {U} hU hma => by
    obtain ⟨ρ, hs⟩ := U.find_ok hma hc hU
    exact h2.ghost_post.post hs
  cases e1 with
  | normal =>
    simp only at h1
    split at h1
    · rename_i a ha
      cases h1
      exact ⟨fun _ => main hk ha, fun hne => absurd rfl hne⟩
    · cases h1
  | exit id =>
    simp only at h1
    split at h1
    · rename_i a ha
      cases h1
      exact ⟨fun he => (by cases he), fun _ => main hk' ha⟩
    · cases h1
  | ret =>
    simp only at h1
    split at h1
    · rename_i a ha
      cases h1
      exact ⟨fun he => (by cases he), fun _ => main hk' ha⟩
    · cases h1
theorem roundT_sim {P : Program} {C : Oracle} {L : Loops} {N n0 : Nat} {rd : Option Nat} {me : FuncId} {c : Code} {T T' : Tm} {ps qs : List PV} {e : XE} {l : List (Code × Code)} (hC : OracleOk P C) (hm : P.follows .mixedOrders = true) (hl : loopsOk P L) (hk : T.ok = true) (hk' : T'.ok = true)
    (h : roundT P C L N n0 rd me c T T' ps = some (e, qs, l)) (hc : codesOk l) : (e = .normal → SimC P n0 rd c (T.at ps) e (T.at qs)) ∧ (e ≠ .normal → SimC P n0 rd c (T.at ps) e (T'.at qs)) := roundG_sim hC hm hl hk hk' h hc

/-- A loop whose rounds the engine has run: over a family in X. -/
theorem loop_of_rounds_n {P : Program} {C : Oracle} {L : Loops} {N n0 : Nat} {rd : Option Nat} {me : FuncId} {c : Code} {T T' : Tm} (hC : OracleOk P C) (hm : P.follows .mixedOrders = true) (hl : loopsOk P L) (hk : T.ok = true) (hk' : T'.ok = true)
    {X : Type} (enc : X → List PV) (inv : X → Prop) (μ : X → Nat) (fin : X → XE × List PV)
    (round : ∀ x, inv x → ∃ e qs l, roundT P C L N n0 rd me c T T' (enc x) = some (e, qs, l) ∧ codesOk l ∧
      ((e = .normal ∧ ∃ y, qs = enc y ∧ inv y ∧ μ y < μ x ∧ fin y = fin x) ∨ (e ≠ .normal ∧ (e, qs) = fin x))) :
    ∀ x, inv x → ∃ n, SimL P n0 rd c n (T.at (enc x)) (fin x).1 (T'.at (fin x).2) := by
  have key : ∀ m x, μ x = m → inv x → ∃ n, SimL P n0 rd c n (T.at (enc x)) (fin x).1 (T'.at (fin x).2) := by
    intro m
    induction m using Nat.strongRecOn with
    | _ m ih =>
      intro x hm' hx
      obtain ⟨e, qs, l, h1, h2, h3⟩ := round x hx
      obtain ⟨q1, q2⟩ := roundT_sim hC hm hl hk hk' h1 h2
      rcases h3 with ⟨rfl, y, rfl, hy, hlt, hf⟩ | ⟨hne, hf⟩
      · obtain ⟨n, hn⟩ := ih (μ y) (hm' ▸ hlt) y rfl hy
        rw [hf] at hn
        exact ⟨n + 1, (q1 rfl).step hn⟩
      · rw [← hf]
        exact ⟨1, (q2 hne).leave hne⟩
  exact fun x hx => key _ x rfl hx
theorem loop_of_rounds {P : Program} {C : Oracle} {L : Loops} {N n0 : Nat} {rd : Option Nat} {me : FuncId} {c : Code} {T T' : Tm} (hC : OracleOk P C) (hm : P.follows .mixedOrders = true) (hl : loopsOk P L) (hk : T.ok = true) (hk' : T'.ok = true)
    {X : Type} (enc : X → List PV) (inv : X → Prop) (μ : X → Nat) (fin : X → XE × List PV)
    (round : ∀ x, inv x → ∃ e qs l, roundT P C L N n0 rd me c T T' (enc x) = some (e, qs, l) ∧ codesOk l ∧
      ((e = .normal ∧ ∃ y, qs = enc y ∧ inv y ∧ μ y < μ x ∧ fin y = fin x) ∨ (e ≠ .normal ∧ (e, qs) = fin x))) :
    ∀ x, inv x → SimC P n0 rd (.loop c) (T.at (enc x)) (fin x).1 (T'.at (fin x).2) := fun x hx => by
  obtain ⟨n, hn⟩ := loop_of_rounds_n hC hm hl hk hk' enc inv μ fin round x hx
  exact hn.loop
/-- The first round leads into another family. -/
theorem loop_peel {P : Program} {C : Oracle} {L : Loops} {N n0 : Nat} {rd : Option Nat} {me : FuncId} {c : Code} {T T2 T' : Tm} {ps qs : List PV} {l : List (Code × Code)} {e : XE} {s' : AS} {n : Nat} (hC : OracleOk P C) (hm : P.follows .mixedOrders = true) (hl : loopsOk P L) (hk : T2.ok = true) (hk' : T'.ok = true)
    (h : roundG P C L N n0 rd me c T T2 T' ps = some (.normal, qs, l)) (hc : codesOk l) (h2 : SimL P n0 rd c n (T2.at qs) e s') : SimC P n0 rd (.loop c) (T.at ps) e s' :=
  (((roundG_sim hC hm hl hk hk' h hc).1 rfl).step h2).loop
theorem loop_leave {P : Program} {C : Oracle} {L : Loops} {N n0 : Nat} {rd : Option Nat} {me : FuncId} {c : Code} {T T2 T' : Tm} {ps qs : List PV} {l : List (Code × Code)} {e : XE} (hC : OracleOk P C) (hm : P.follows .mixedOrders = true) (hl : loopsOk P L) (hk : T2.ok = true) (hk' : T'.ok = true)
    (h : roundG P C L N n0 rd me c T T2 T' ps = some (e, qs, l)) (hc : codesOk l) (he : e ≠ .normal) : SimC P n0 rd (.loop c) (T.at ps) e (T'.at qs) :=
  (((roundG_sim hC hm hl hk hk' h hc).2 he).leave he).loop

/-- Slots by their numbers. -/
def lookT (i : Nat) : List (Nat × TV) → Option TV
  | [] => none
  | (j, t) :: r => bif Nat.beq j i then some t else lookT i r
def mkS (l : List (Nat × TV)) : Nat → Nat → TS
  | _, 0 => []
  | i, k + 1 => lookT i l :: mkS l (i + 1) k

/-- Pieces of a function's code, by the number of their first region. -/
def findLoop (n : Nat) : Code → Option Code
  | .seq a b => match findLoop n a with
    | some c => some c
    | none => findLoop n b
  | .cond _ a b => match findLoop n a with
    | some c => some c
    | none => findLoop n b
  | .block _ b => findLoop n b
  | .loop b => match Nat.beq (firstReg b) n with
    | true => some b
    | false => findLoop n b
  | .rangeFunc _ _ a b => match findLoop n a with
    | some c => some c
    | none => findLoop n b
  | _ => none
def loopOf (n : Nat) (fn : Func) : Code := match fn.body with
  | some c => match findLoop n c with
    | some b => b
    | none => .skip
  | none => .skip
def findRange (n : Nat) : Code → Option (Code × Code)
  | .seq a b => match findRange n a with
    | some c => some c
    | none => findRange n b
  | .cond _ a b => match findRange n a with
    | some c => some c
    | none => findRange n b
  | .block _ b => findRange n b
  | .loop b => findRange n b
  | .rangeFunc _ _ a b => match Nat.beq (firstReg b) n with
    | true => some (a, b)
    | false => findRange n b
  | _ => none
def rangeA (n : Nat) (fn : Func) : Code := match fn.body with
  | some c => match findRange n c with
    | some b => b.1
    | none => .skip
  | none => .skip
def rangeB (n : Nat) (fn : Func) : Code := match fn.body with
  | some c => match findRange n c with
    | some b => b.2
    | none => .skip
  | none => .skip
/-- Loops of one function. -/
def sums (l : Nat → Option LoopSum) : Loops := ⟨l, fun _ => none⟩
end Go.Eng
