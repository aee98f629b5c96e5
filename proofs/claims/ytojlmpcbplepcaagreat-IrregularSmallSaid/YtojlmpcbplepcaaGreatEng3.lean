/- THE ENGINE, piece 3: an interpreter of the model over abstract values, proved sound. -/
import Derived.Test.YtojlmpcbplepcaaGreatEng2
import Derived.Test.YtojlmpcbplepcaaGreatEng1
import Derived.LoopNIn
import Derived.RangeFuncLeaves
import Derived.KernelRfl
/- ENGINE, PART 8c: a region that draws its order and lays several variables: any order of the tape. -/
namespace Go.Eng
open Go
section
variable {P : Program}

def peff (kb : Bool) (x : Did) : HEff := match x.eff with
  | .push n blk => .wr n blk
  | .kpush b n blk => bif kb then .mv b n blk else .kpush b n blk
  | e => e
/-- The block has its number beforehand. -/
def pd (kb : Bool) (x : Did) : Did := ⟨x.v, x.rd, peff kb x, x.run⟩
def nextP (kb : Bool) (o : Oper) (s : AS) (x : Did) : AS := nextS o s (pd kb x)

/-- The block that it lays, and the one that it gives up. -/
def bnk (kb : Bool) (x : Did) : Option (Option Nat × Nat × Blk) := match x.eff with
  | .push n blk => some (none, n, blk)
  | .kpush b n blk => bif kb then some (some b, n, blk) else none
  | _ => none
structure BirthOk (kb : Bool) (P : Program) (ops : List Oper) (o : Oper) (s : AS) (x : Did) : Prop where
  guard : guardA ops o s.tmps = some true
  nd : ∀ c, o.op ≠ .defer c
  eff : ∃ q n blk, bnk kb x = some (q, n, blk) ∧ OpBornM P o (evalV s.tmps) s.heap x.v x.rd q n blk ∧ q ≠ some n ∧ noBlk n blk = true
def isPush (kb : Bool) (x : Did) : Bool := match x.eff with
  | .push _ _ => true
  | .kpush _ _ _ => kb
  | _ => false
def GStep (kb : Bool) (P : Program) (ops : List Oper) (o : Oper) (s : AS) (x : Did) : Prop := (isPush kb x = true ∧ BirthOk kb P ops o s x) ∨ (isPush kb x = false ∧ StepOk P ops o s x)

theorem pd_self {kb : Bool} {x : Did} (h : isPush kb x = false) : pd kb x = x := by
  obtain ⟨v, rd, eff, run⟩ := x
  cases eff with
  | push => simp [isPush] at h
  | kpush => simp only [isPush] at h; subst h; rfl
  | _ => rfl
theorem pd_bnk {kb : Bool} {x : Did} {q : Option Nat} {n : Nat} {blk : Blk} (h : bnk kb x = some (q, n, blk)) : (pd kb x).eff = (match q with | none => .wr n blk | some b => .mv b n blk) := by
  obtain ⟨v, rd, eff, run⟩ := x
  cases eff with
  | push => cases h; rfl
  | kpush =>
    cases kb with
    | true => cases h; rfl
    | false => cases h
  | _ => cases h
theorem bnk_app {kb : Bool} {x : Did} {q : Option Nat} {n : Nat} {blk : Blk} (h : bnk kb x = some (q, n, blk)) (l : List Blk) : (pd kb x).eff.app l = setB (killO q l) n blk := by
  rw [pd_bnk h]; cases q <;> rfl

theorem StepOk.same {ops : List Oper} {o : Oper} {s : AS} {x : Did} (hx : StepOk P ops o s x) : Same s.heap s.heap x.rd x.eff := by
  cases hr : x.run with
  | true => exact (hx.ran hr).2.2
  | false => obtain ⟨_, h2, h3⟩ := hx.idle hr; rw [h2, h3]; intro _ h; cases h
theorem GStep.same {kb : Bool} {ops : List Oper} {o : Oper} {s : AS} {x : Did} (hx : GStep kb P ops o s x) : Same s.heap s.heap (pd kb x).rd (pd kb x).eff := by
  rcases hx with ⟨_, h⟩ | ⟨hp, h⟩
  · obtain ⟨q, n, blk, h1, _⟩ := h.eff
    rw [pd_bnk h1]
    cases q with
    | none => exact ⟨fun _ _ => rfl, rfl⟩
    | some b => exact ⟨fun _ _ => rfl, rfl, rfl⟩
  · rw [pd_self hp]; exact h.same
/-- What the birth looks at stays as it is. -/
theorem same_bnk {kb : Bool} {x : Did} {q : Option Nat} {n : Nat} {blk : Blk} (h : bnk kb x = some (q, n, blk)) {h1 h2 : List Blk} (hs : Same h1 h2 (pd kb x).rd (pd kb x).eff) : (∀ b ∈ x.rd, h2[b]? = h1[b]?) ∧ ∀ b, q = some b → h2[b]? = h1[b]? := by
  rw [pd_bnk h] at hs
  cases q with
  | none => exact ⟨hs.1, fun b hb => by cases hb⟩
  | some c => exact ⟨hs.1, fun b hb => by cases hb; exact hs.2.1⟩

theorem StepOk.back {ops : List Oper} {o1 o2 : Oper} {x y : Did} {s : AS} (a1 : ∀ t, o1.dst = some t → t ∉ o2.looksAt ops.toArray) (hy : StepOk P ops o2 (nextS o1 s x) y) (q1 : Same s.heap s.heap y.rd y.eff)
    (q2 : ∀ h2, Same s.heap h2 y.rd y.eff → Same (x.eff.app s.heap) h2 y.rd y.eff) : StepOk P ops o2 s y := by
  have ey : ∀ z ∈ o2.op.operands, evalV s.tmps z = evalV (nextS o1 s x).tmps z := fun z hz => by
    simp only [nextS]
    exact (evalV_put fun t ht e => a1 t ht (by subst e; exact operands_looksAt hz)).symm
  refine ⟨?_, fun hr => ⟨(hy.ran hr).1, ?_, q1⟩, hy.idle, hy.born.congr ey (q2 _ q1).sb⟩
  · have := hy.guard
    simp only [nextS] at this
    rwa [guardA_put a1] at this
  · exact (hy.ran hr).2.1.congr ey q2
theorem StepOk.fwd {ops : List Oper} {o1 o2 : Oper} {x y : Did} {s : AS} (a3 : ∀ t, o2.dst = some t → t ∉ o1.looksAt ops.toArray) (hx : StepOk P ops o1 s x) (q3 : Same (y.eff.app s.heap) (y.eff.app s.heap) x.rd x.eff)
    (q4 : ∀ h2, Same (y.eff.app s.heap) h2 x.rd x.eff → Same s.heap h2 x.rd x.eff) : StepOk P ops o1 (nextS o2 s y) x := by
  have ex : ∀ z ∈ o1.op.operands, evalV (nextS o2 s y).tmps z = evalV s.tmps z := fun z hz => by
    simp only [nextS]
    exact evalV_put fun t ht e => a3 t ht (by subst e; exact operands_looksAt hz)
  refine ⟨?_, fun hr => ⟨(hx.ran hr).1, ?_, q3⟩, hx.idle, hx.born.congr ex (q4 _ q3).sb⟩
  · simp only [nextS]
    rw [guardA_put a3]; exact hx.guard
  · exact (hx.ran hr).2.1.congr ex q4

theorem g_swap {kb : Bool} {ops : List Oper} {o1 o2 : Oper} {x y : Did} {s : AS} (ha : o1.apart ops.toArray o2 = true) (hc : hcomm (pd kb x) (pd kb y) = true) (hx : GStep kb P ops o1 s x) (hy : GStep kb P ops o2 (nextP kb o1 s x) y) :
    GStep kb P ops o2 s y ∧ GStep kb P ops o1 (nextP kb o2 s y) x ∧ nextP kb o2 (nextP kb o1 s x) y = nextP kb o1 (nextP kb o2 s y) x := by
  obtain ⟨a1, a2, a3⟩ := Oper.apart_spec ha
  obtain ⟨q1, q2, q3, q4, q5⟩ := hcomm_swap hc hx.same hy.same
  refine ⟨?_, ?_, ?_⟩
  · rcases hy with ⟨hp, h⟩ | ⟨hp, h⟩
    · obtain ⟨q, n, blk, e1, e2, e3⟩ := h.eff
      obtain ⟨z1, z2⟩ := same_bnk e1 (q2 _ q1)
      refine .inl ⟨hp, ?_, h.nd, q, n, blk, e1, e2.congr (fun z hz => ?_) z1 z2, e3⟩
      · have := h.guard
        simp only [nextP, nextS] at this
        rwa [guardA_put a1] at this
      · simp only [nextP, nextS]
        exact (evalV_put fun t ht e => a1 t ht (by subst e; exact operands_looksAt hz)).symm
    · rw [pd_self hp] at q1 q2
      exact .inr ⟨hp, h.back a1 q1 q2⟩
  · rcases hx with ⟨hp, h⟩ | ⟨hp, h⟩
    · obtain ⟨q, n, blk, e1, e2, e3⟩ := h.eff
      obtain ⟨z1, z2⟩ := same_bnk e1 (q4 _ q3)
      refine .inl ⟨hp, ?_, h.nd, q, n, blk, e1, e2.congr (fun z hz => ?_) z1 z2, e3⟩
      · simp only [nextP, nextS]
        rw [guardA_put a3]; exact h.guard
      · simp only [nextP, nextS]
        exact evalV_put fun t ht e => a3 t ht (by subst e; exact operands_looksAt hz)
    · rw [pd_self hp] at q3 q4
      exact .inr ⟨hp, h.fwd a3 q3 q4⟩
  · simp only [nextP, nextS]
    rw [q5, putV_comm _ _ _ a2]

def GPath (kb : Bool) (P : Program) (ops : List Oper) : AS → List (Nat × Oper × Did) → AS → Prop
  | s, [], e => s = e
  | s, (i, o, x) :: L, e => ops[i]? = some o ∧ GStep kb P ops o s x ∧ GPath kb P ops (nextP kb o s x) L e
theorem GPath.front {kb : Bool} {ops : List Oper} {i : Nat} {o : Oper} {x : Did} {L2 : List (Nat × Oper × Did)} {e : AS} : ∀ {L1 : List (Nat × Oper × Did)} {s : AS}, GPath kb P ops s (L1 ++ (i, o, x) :: L2) e →
    (∀ z ∈ L1, z.2.1.apart ops.toArray o = true ∧ hcomm (pd kb z.2.2) (pd kb x) = true) → GPath kb P ops s ((i, o, x) :: (L1 ++ L2)) e
  | [], s, hp, _ => hp
  | (j, o1, y) :: L1, s, hp, hc => by
    obtain ⟨hj, hy, hp⟩ := hp
    obtain ⟨hi, hx, hp⟩ := GPath.front hp (fun z hz => hc z (by simp [hz]))
    obtain ⟨h1, h2⟩ := hc (j, o1, y) (by simp)
    obtain ⟨q1, q2, q3⟩ := g_swap h1 h2 hy hx
    exact ⟨hi, q1, hj, q2, by rw [← q3]; exact hp⟩

/-- What an operation did does not name the block. -/
def cleanB (n : Nat) (x : Did) : Bool := noV n x.v && (match x.eff with
  | .none => true
  | .wr b blk => !(Nat.beq b n) && noBlk n blk
  | .push b blk => !(Nat.beq b n) && noBlk n blk
  | .kpush c b blk => !(Nat.beq b n) && (!(Nat.beq c n) && noBlk n blk)
  | _ => false)
theorem mem_putV {l : List V} {d : Option Tmp} {v u : V} (h : u ∈ putV l d v) : u ∈ l ∨ u = v := by
  cases d with
  | none => exact .inl h
  | some d => simp only [putV, setV_eq] at h; exact List.mem_or_eq_of_mem_set h
theorem NoM.next {kb : Bool} {n : Nat} {o : Oper} {s : AS} {x : Did} (hn : NoM n s) (hc : cleanB n x = true) : NoM n (nextP kb o s x) := by
  obtain ⟨v, rd, eff, run⟩ := x
  simp only [cleanB, Bool.and_eq_true] at hc
  obtain ⟨h1, h2⟩ := hc
  have set1 : ∀ {l : List Blk} {b : Nat} {y z : Blk}, (∀ u ∈ l, noBlk n u = true) → noBlk n y = true → z ∈ setB l b y → noBlk n z = true := fun {l b y z} hl hy hz => by
    rw [setB_eq] at hz
    rcases List.mem_or_eq_of_mem_set hz with h | h
    · exact hl z h
    · rw [h]; exact hy
  refine ⟨fun u hu => ?_, fun blk hb => ?_, hn.marks⟩
  · rcases mem_putV hu with h | h
    · exact hn.tmps u h
    · rw [h]; exact h1
  · cases eff with
    | none => exact hn.heap blk hb
    | wr b blk' =>
      simp only [Bool.and_eq_true] at h2
      exact set1 hn.heap h2.2 hb
    | push b blk' =>
      simp only [Bool.and_eq_true] at h2
      exact set1 hn.heap h2.2 hb
    | kpush c b blk' =>
      simp only [Bool.and_eq_true] at h2
      cases kb with
      | true => exact set1 (fun u hu => set1 hn.heap rfl hu) h2.2.2 hb
      | false =>
        have hb : blk ∈ setB s.heap c .dead ++ [blk'] := hb
        rcases List.mem_append.1 hb with hb | hb
        · exact set1 hn.heap rfl hb
        · rw [List.mem_singleton.1 hb]; exact h2.2.2
    | _ => cases h2

theorem GStep.wp {kb : Bool} {r : Option Nat} {ops : List Oper} {i : Nat} {o : Oper} {s : AS} {x : Did} (hi : ops[i]? = some o) (hx : GStep kb P ops o s x) {E : Env} {a : Act} {W : World} {n0 : Nat} (hs : StOk E s a W) (h0 : n0 ≤ s.heap.length)
    (hn : ∀ q n blk, bnk kb x = some (q, n, blk) → NoM n s ∧ n < s.heap.length ∧ n0 ≤ n) {Q : Exit → Act → World → Prop} {Kn : Act → World → Prop}
    (hk : ∀ E' a' W', StOk E' (nextP kb o s x) a' W' → TransN n0 E s.heap W E' (nextP kb o s x).heap W' → s.heap.length ≤ (nextP kb o s x).heap.length → Kn a' W') : wpOpIn (fen r) 0 P ops.toArray Q i Kn a W := by
  rcases hx with ⟨hp, h⟩ | ⟨hp, h⟩
  · obtain ⟨q, n, blk, e1, e2, e3, e4⟩ := h.eff
    obtain ⟨hm, hlt, hge⟩ := hn _ n _ e1
    unfold wpOpIn
    simp only [List.getElem?_toArray, hi]
    rw [guardA_real hs h.guard]
    simp only [if_true]
    have hlen : (setB (killO q s.heap) n blk).length = s.heap.length := by rw [setB_len, killO_len]
    have hnx : nextP kb o s x = ⟨putV s.tmps o.dst x.v, setB (killO q s.heap) n blk, s.marks⟩ := by
      simp only [nextP, nextS]; rw [bnk_app e1]; rfl
    refine e2 s.heap (fun _ _ => rfl) (fun _ _ => rfl) E a W hs.heap (fun z _ => hs.eval z) hlt e3 hm.heap e4 Kn Q (fun E2 k dl ln cp nl ba val W' hE hH hv ht => ?_) h.nd r
    have hbirth := hs.birthM hm hge o.dst hE hlen hH hv ht
    refine hk (E2.one n k dl ln cp nl ba) _ _ ?_ ?_ (by rw [hnx]; simp only [hlen]; exact Nat.le_refl _)
    · rw [hnx]; exact hbirth.1
    · rw [hnx]; exact hbirth.2
  · refine h.wp hi hs fun E' a' W' hs' ht => ?_
    have hpd := pd_self hp
    exact hk E' a' W' (by rw [nextP, hpd]; exact hs') (by rw [nextP, hpd]; exact ht.to h0) (by rw [nextP, hpd]; exact ht.len)

def pairP (kb : Bool) (ops : Array Oper) (m : List Nat) (x y : Nat × Oper × Did) : Bool :=
  (match bnk kb y.2.2 with
    | some (_, n, _) => cleanB n x.2.2
    | none => true) &&
  ((m.getD y.1 0).testBit x.1 || (x.2.1.apart ops y.2.1 && (hcomm (pd kb x.2.2) (pd kb y.2.2) && (match bnk kb x.2.2 with
    | some (_, n, _) => cleanB n y.2.2
    | none => true))))
def freeP (kb : Bool) (ops : Array Oper) (m : List Nat) : List (Nat × Oper × Did) → Bool
  | [] => true
  | x :: r => r.all (pairP kb ops m x) && freeP kb ops m r
theorem freeP_remove {kb : Bool} {ops : Array Oper} {m : List Nat} : ∀ {L1 : List (Nat × Oper × Did)} {x : Nat × Oper × Did} {L2 : List (Nat × Oper × Did)}, freeP kb ops m (L1 ++ x :: L2) = true → freeP kb ops m (L1 ++ L2) = true ∧ (∀ z ∈ L1, pairP kb ops m z x = true) ∧ (∀ z ∈ L2, pairP kb ops m x z = true)
  | [], x, L2, h => by
    simp only [List.nil_append, freeP, Bool.and_eq_true, List.all_eq_true] at h
    exact ⟨h.2, fun z hz => (by cases hz), h.1⟩
  | y :: L1, x, L2, h => by
    simp only [List.cons_append, freeP, Bool.and_eq_true, List.all_eq_true] at h
    obtain ⟨h1, h2, h3⟩ := freeP_remove h.2
    refine ⟨?_, fun z hz => ?_, h3⟩
    · simp only [List.cons_append, freeP, Bool.and_eq_true, List.all_eq_true]
      refine ⟨fun z hz => h.1 z ?_, h1⟩
      rcases List.mem_append.1 hz with hz | hz
      · simp [hz]
      · simp [hz]
    · rcases List.mem_cons.1 hz with rfl | hz
      · exact h.1 x (by simp)
      · exact h2 z hz

theorem wpAny_of_gpath {kb : Bool} {r : Option Nat} {ops : List Oper} {n0 : Nat} {Q : Exit → Act → World → Prop} (hback : backB ops 0 = true) : ∀ (fuel : Nat) (L : List (Nat × Oper × Did)) (listed : Array Bool) (s e : AS) (E : Env) (a : Act) (W : World),
    L.length = fuel → listed.size = ops.length → (∀ i, i < ops.length → (listed.getD i false = true ↔ i ∉ L.map (·.1))) → (∀ x ∈ L, ops[x.1]? = some x.2.1) → closedL ops listed → ascB L →
    freeP kb ops.toArray (masks ops []) L = true → n0 ≤ s.heap.length → (∀ x ∈ L, ∀ q n blk, bnk kb x.2.2 = some (q, n, blk) → NoM n s ∧ n < s.heap.length ∧ n0 ≤ n) →
    GPath kb P ops s L e → StOk E s a W → (∀ E' a' W', StOk E' e a' W' → TransN n0 E s.heap W E' e.heap W' → Q .normal a' W') →
    wpAnyIn (fen r) 0 P .any ops.toArray Q fuel listed a W := by
  intro fuel
  induction fuel with
  | zero =>
    intro L listed s e E a W hlen hsz hli hop hcl hasc hfree h0 hnm hp hs hq
    have : L = [] := List.eq_nil_of_length_eq_zero hlen
    subst this
    cases hp
    refine ⟨?_, hq E a W hs ((Trans.refl _ _ _).to h0)⟩
    apply List.eq_nil_iff_forall_not_mem.2
    intro i hi
    obtain ⟨h1, o, ho, _⟩ := mem_ready.1 hi
    have hlt : i < ops.length := by
      have := (Array.getElem?_eq_some_iff.1 ho).1; simpa using this
    have := (hli i hlt).2 (by simp)
    have hs' : i < listed.size := by omega
    simp [hs'] at h1 this
    rw [h1] at this; cases this
  | succ fuel ih =>
    intro L listed s e E a W hlen hsz hli hop hcl hasc hfree h0 hnm hp hs hq
    have both : ∀ {i : Nat}, i < ops.length → listed.getD i true = listed.getD i false := fun {i} hi => by
      have : i < listed.size := by omega
      simp [this]
    refine ⟨fun hr => ?_, fun i hi => ?_⟩
    · -- something is ready: the first one
      exfalso
      match L, hlen with
      | (i, o, x) :: r, _ =>
        have hio := hop (i, o, x) (by simp)
        have hlt : i < ops.length := getElem?_lt hio
        have : i ∈ Region.ready .any ops.toArray listed := by
          refine mem_ready.2 ⟨?_, o, by simpa using hio, fun ed he hb => ?_⟩
          · rw [both hlt]
            cases hx : listed.getD i false with
            | false => rfl
            | true => exact absurd ((hli i hlt).1 hx) (by simp)
          · have hon := backB_spec hback i o hio ed he hb
            refine (hli ed.on (by omega)).2 fun hm => ?_
            simp only [List.map_cons, List.mem_cons] at hm
            rcases hm with hm | hm
            · omega
            · obtain ⟨y, hy, hye⟩ := List.mem_map.1 hm
              have := hasc.1 y hy
              omega
        rw [hr] at this; cases this
    · obtain ⟨h1, o, ho, hd⟩ := mem_ready.1 hi
      have hio : ops[i]? = some o := by simpa using ho
      have hlt : i < ops.length := getElem?_lt hio
      rw [both hlt] at h1
      have hmem : i ∈ L.map (·.1) := by
        apply Classical.byContradiction
        intro hn
        have := (hli i hlt).2 hn
        rw [h1] at this; cases this
      obtain ⟨y, hy, hyi⟩ := List.mem_map.1 hmem
      obtain ⟨L1, L2, rfl⟩ := List.append_of_mem hy
      obtain ⟨i', o', x⟩ := y
      simp only at hyi
      subst hyi
      have ho' : o' = o := by
        have := hop (i', o', x) (by simp)
        simp only at this
        rw [hio] at this
        injection this with this
        exact this.symm
      subst ho'
      obtain ⟨hasc', hl1, hl2⟩ := ascB_remove hasc
      obtain ⟨hfree', hpair, hpair2⟩ := freeP_remove hfree
      have unm : ∀ z ∈ L1, ((masks ops []).getD i' 0).testBit z.1 = true → False := fun z hz h => by
        have hlz : listed.getD z.1 false = true := masks_closed hcl i' o' hio hd h
        have hzlt : z.1 < ops.length := getElem?_lt (hop z (by simp [hz]))
        exact (hli z.1 hzlt).1 hlz (by
          simp only [List.map_append, List.mem_append]
          exact .inl (List.mem_map.2 ⟨z, hz, rfl⟩))
      have hcomm_ : ∀ z ∈ L1, z.2.1.apart ops.toArray o' = true ∧ hcomm (pd kb z.2.2) (pd kb x) = true := fun z hz => by
        have := hpair z hz
        simp only [pairP, Bool.and_eq_true, Bool.or_eq_true] at this
        rcases this.2 with h | h
        · exact (unm z hz h).elim
        · exact ⟨h.1, h.2.1⟩
      have hclean : ∀ z ∈ L1 ++ L2, ∀ q n blk, bnk kb z.2.2 = some (q, n, blk) → cleanB n x = true := fun z hz q n blk hzp => by
        rcases List.mem_append.1 hz with hz | hz
        · have := hpair z hz
          simp only [pairP, Bool.and_eq_true, Bool.or_eq_true] at this
          rcases this.2 with h | h
          · exact (unm z hz h).elim
          · have := h.2.2
            rw [hzp] at this
            exact this
        · have := hpair2 z hz
          simp only [pairP, Bool.and_eq_true] at this
          have := this.1
          rw [hzp] at this
          exact this
      obtain ⟨_, hx, hp'⟩ := GPath.front hp hcomm_
      have hmem2 : ∀ {z}, z ∈ L1 ++ L2 → z ∈ L1 ++ (i', o', x) :: L2 := fun {z} hz => by
        rcases List.mem_append.1 hz with h | h
        · simp [h]
        · simp [h]
      refine hx.wp hio hs h0 (fun q n blk he => hnm (i', o', x) (by simp) q n blk he) fun E' a' W' hs' ht hlen' => ?_
      have getset : ∀ j, (listed.setIfInBounds i' true).getD j false = if j = i' then true else listed.getD j false := fun j => by
        have hlt' : i' < listed.size := by omega
        by_cases hj : j = i'
        · subst hj; simp [hlt']
        · rw [if_neg hj, Array.getD_eq_getD_getElem?, Array.getElem?_setIfInBounds_ne (Ne.symm hj), ← Array.getD_eq_getD_getElem?]
      refine ih (L1 ++ L2) (listed.setIfInBounds i' true) _ e E' a' W' (by simp at hlen ⊢; omega) (by simp [hsz]) (fun j hj => ?_) (fun y hy => hop y (hmem2 hy)) (fun k ok hk hlk ed he hb => ?_) hasc' hfree' (Nat.le_trans h0 hlen')
        (fun z hz q n blk he => ?_) hp' hs' (fun E'' a'' W'' hs'' ht' => hq E'' a'' W'' hs'' (ht.trans ht'))
      · rw [getset]
        by_cases hji : j = i'
        · subst hji
          rw [if_pos rfl]
          refine ⟨fun _ hm => ?_, fun _ => rfl⟩
          simp only [List.map_append, List.mem_append, List.mem_map] at hm
          rcases hm with ⟨y, hy, hyj⟩ | ⟨y, hy, hyj⟩
          · have := hl1 y hy; simp only at this; omega
          · have := hl2 y hy; simp only at this; omega
        · rw [if_neg hji, hli j hj]
          simp only [List.map_append, List.map_cons, List.mem_append, List.mem_cons, not_or]
          exact ⟨fun h => ⟨h.1, h.2.2⟩, fun h => ⟨h.1, hji, h.2⟩⟩
      · rw [getset]
        split
        · rfl
        · rw [getset] at hlk
          split at hlk
          · rename_i hki
            subst hki
            rw [hio] at hk
            injection hk with hk
            subst hk
            exact hd ed he hb
          · exact hcl k ok hk hlk ed he hb
      · obtain ⟨q1, q2, q3⟩ := hnm z (hmem2 hz) q n blk he
        exact ⟨q1.next (hclean z hz q n blk he), Nat.lt_of_lt_of_le q2 hlen', q3⟩

/-! ### the blocks' numbers beforehand -/
def noPush (kb : Bool) : List (Nat × Oper × Did) → Bool
  | [] => true
  | x :: r => !(isPush kb x.2.2) && noPush kb r
def pushes (kb : Bool) : List (Nat × Oper × Did) → Nat
  | [] => 0
  | x :: r => (bif isPush kb x.2.2 then 1 else 0) + pushes kb r
theorem pushes_no {kb : Bool} : ∀ {L : List (Nat × Oper × Did)}, noPush kb L = true → pushes kb L = 0
  | [], _ => rfl
  | x :: r, h => by
    simp only [noPush, Bool.and_eq_true, Bool.not_eq_true'] at h
    simp only [pushes, h.1, cond_false, pushes_no h.2]
theorem noPush_mem {kb : Bool} : ∀ {L : List (Nat × Oper × Did)}, noPush kb L = true → ∀ x ∈ L, isPush kb x.2.2 = false
  | [], _, x, hx => by cases hx
  | y :: r, h, x, hx => by
    simp only [noPush, Bool.and_eq_true, Bool.not_eq_true'] at h
    rcases List.mem_cons.1 hx with rfl | hx
    · exact h.1
    · exact noPush_mem h.2 x hx
def chkP (kb : Bool) : List (Nat × Oper × Did) → Nat → Bool
  | [], _ => true
  | x :: r, n => match x.2.2.eff with
    | .none => x.2.2.rd.all (Nat.blt · n) && chkP kb r n
    | .wr b _ => Nat.blt b n && (x.2.2.rd.all (Nat.blt · n) && chkP kb r n)
    | .push b blk => x.2.2.run && ((isBorn x.2.1 || (kb && (isApp x.2.1 && bareB blk))) && (noBlk b blk && (x.2.2.rd.all (Nat.blt · n) && chkP kb r (n + 1))))
    | .kpush b q blk => bif kb then x.2.2.run && (isApp x.2.1 && (bareB blk && (noBlk q blk && (Nat.blt b n && (x.2.2.rd.all (Nat.blt · n) && chkP kb r (n + 1)))))) else noPush kb r && chkP kb r (n + 1)
    | .all h' => noPush kb r && chkP kb r h'.length
    | .mv _ _ _ => false
def padS (k : Nat) (s : AS) : AS := ⟨s.tmps, s.heap ++ List.replicate k .dead, s.marks⟩
end
end Go.Eng

/- ENGINE, PART 8d: from the text's order to the blocks' numbers beforehand. -/
namespace Go.Eng
open Go
section
variable {P : Program}

theorem setB_app (h r : List Blk) {b : Nat} (x : Blk) (hb : b < h.length) : setB (h ++ r) b x = setB h b x ++ r := by
  simp only [setB_eq]; rw [List.set_append_left _ _ hb]
theorem get_app {h r : List Blk} {b : Nat} (hb : b < h.length) : (h ++ r)[b]? = h[b]? := List.getElem?_append_left hb

theorem StepOk.pad {ops : List Oper} {o : Oper} {s : AS} {x : Did} {k : Nat} (hx : StepOk P ops o s x) (hrd : ∀ b ∈ x.rd, b < s.heap.length) (hkp : ∀ b n blk, x.eff = .kpush b n blk → b < s.heap.length) (hs : ∀ h2, Same (padS k s).heap h2 x.rd x.eff → Same s.heap h2 x.rd x.eff) (hss : Same (padS k s).heap (padS k s).heap x.rd x.eff) :
    StepOk P ops o (padS k s) x :=
  ⟨hx.guard, fun hr => ⟨(hx.ran hr).1, (hx.ran hr).2.1.congr (fun _ _ => rfl) hs, hss⟩, hx.idle, hx.born.congr (fun _ _ => rfl) ⟨fun b hb => get_app (hrd b hb), fun b n blk he => get_app (hkp b n blk he)⟩⟩

theorem bnk_push {kb : Bool} {x : Did} {q : Option Nat} {n : Nat} {blk : Blk} (h : bnk kb x = some (q, n, blk)) (hp : isPush kb x = false) : False := by
  obtain ⟨v, rd, eff, run⟩ := x
  cases eff with
  | push => simp [isPush] at hp
  | kpush => simp only [isPush] at hp; subst hp; cases h
  | _ => cases h
theorem gpath_of {kb : Bool} {ops : List Oper} : ∀ {L : List (Nat × Oper × Did)} {s e : AS}, PathOk P ops s L e → chkP kb L s.heap.length = true →
    ∃ k, k = pushes kb L ∧ GPath kb P ops (padS k s) L e ∧ (∀ x ∈ L, ∀ q n blk, bnk kb x.2.2 = some (q, n, blk) → s.heap.length ≤ n ∧ n < s.heap.length + k)
  | [], s, e, hp, _ => by
    cases hp
    exact ⟨0, rfl, by simp [GPath, padS], fun x hx => (by cases hx)⟩
  | (i, o, x) :: L, s, e, hp, hc => by
    obtain ⟨hi, hx, hp⟩ := hp
    obtain ⟨v, rd, eff, run⟩ := x
    have allLt : ∀ {l : List Nat} {n : Nat}, l.all (Nat.blt · n) = true → ∀ z ∈ l, z < n := fun {l n} hl z hz => by
      have := List.all_eq_true.1 hl z hz; simpa using this
    cases eff with
    | none =>
      simp only [chkP, Bool.and_eq_true] at hc
      have hlt := allLt hc.1
      obtain ⟨k, h1, h2, h4⟩ := gpath_of hp hc.2
      refine ⟨k, by rw [h1]; simp [pushes, isPush], ⟨hi, .inr ⟨rfl, hx.pad hlt (fun _ _ _ he => (by cases he)) (fun h2 hs z hz => ?_) (fun _ _ => rfl)⟩, h2⟩, fun y hy q n blk he => ?_⟩
      · exact (hs z hz).trans (get_app (hlt z hz))
      · rcases List.mem_cons.1 hy with rfl | hy
        · cases he
        · exact h4 y hy q n blk he
    | wr b blk =>
      simp only [chkP, Bool.and_eq_true] at hc
      have hb : b < s.heap.length := by simpa using hc.1
      have hlt := allLt hc.2.1
      have hl : (nextS o s ⟨v, rd, .wr b blk, run⟩).heap.length = s.heap.length := by simp [nextS, HEff.app, setB_len]
      obtain ⟨k, h1, h2, h4⟩ := gpath_of hp (by rw [hl]; exact hc.2.2)
      rw [hl] at h4
      refine ⟨k, by rw [h1]; simp [pushes, isPush], ⟨hi, .inr ⟨rfl, hx.pad hlt (fun _ _ _ he => (by cases he)) (fun h2 hs => ⟨fun z hz => (hs.1 z hz).trans (get_app (hlt z hz)), hs.2.trans (get_app hb)⟩) ⟨fun _ _ => rfl, rfl⟩⟩, ?_⟩, fun y hy q n blk' he => ?_⟩
      · have : nextP kb o (padS k s) ⟨v, rd, .wr b blk, run⟩ = padS k (nextS o s ⟨v, rd, .wr b blk, run⟩) := by
          simp only [nextP, pd, peff, nextS, padS, HEff.app]; rw [setB_app _ _ _ hb]
        rw [this]; exact h2
      · rcases List.mem_cons.1 hy with rfl | hy
        · cases he
        · exact h4 y hy q n blk' he
    | push n blk =>
      simp only [chkP, Bool.and_eq_true, Bool.or_eq_true] at hc
      obtain ⟨hr, ha, hcl, hrd, hc⟩ := hc
      have hr : run = true := hr
      subst hr
      have hn : s.heap.length = n := ((hx.ran rfl).2.2).2
      subst hn
      have hl : (nextS o s ⟨v, rd, .push s.heap.length blk, true⟩).heap.length = s.heap.length + 1 := by simp [nextS, HEff.app]
      obtain ⟨k, h1, h2, h4⟩ := gpath_of hp (by rw [hl]; exact hc)
      rw [hl] at h4
      have hM : OpBornM P o (evalV s.tmps) s.heap v rd none s.heap.length blk := by
        rcases ha with ha | ⟨_, ha, hbr⟩
        · exact (hx.born.born ha rfl _ _ rfl).toM
        · exact (hx.born.app ha rfl _ _ hbr).1 rfl
      refine ⟨k + 1, by rw [h1]; simp [pushes, isPush]; omega, ⟨hi, .inl ⟨rfl, hx.guard, (hx.ran rfl).1, none, _, _, rfl, hM.congr (fun _ _ => rfl) (fun b hb => get_app (allLt hrd b hb)) (fun b hb => (by cases hb)), (by simp), hcl⟩, ?_⟩, fun y hy q n blk' he => ?_⟩
      · have : nextP kb o (padS (k + 1) s) ⟨v, rd, .push s.heap.length blk, true⟩ = padS k (nextS o s ⟨v, rd, .push s.heap.length blk, true⟩) := by
          simp only [nextP, pd, peff, nextS, padS, HEff.app, setB_eq]
          rw [List.set_append_right _ _ (Nat.le_refl _)]
          simp [List.replicate_succ]
        rw [this]; exact h2
      · rcases List.mem_cons.1 hy with rfl | hy
        · simp only [bnk, Option.some.injEq, Prod.mk.injEq] at he
          omega
        · have := h4 y hy q n blk' he
          omega
    | kpush b n blk =>
      cases kb with
      | true =>
        simp only [chkP, cond_true, Bool.and_eq_true] at hc
        obtain ⟨hr, ha, hbr, hcl, hb, hrd, hc⟩ := hc
        have hr : run = true := hr
        subst hr
        have hb : b < s.heap.length := by simpa using hb
        have hn : s.heap.length = n := ((hx.ran rfl).2.2).2.2
        subst hn
        have hl : (nextS o s ⟨v, rd, .kpush b s.heap.length blk, true⟩).heap.length = s.heap.length + 1 := by simp [nextS, HEff.app, setB_len]
        obtain ⟨k, h1, h2, h4⟩ := gpath_of hp (by rw [hl]; exact hc)
        rw [hl] at h4
        have hM := (hx.born.app ha rfl _ _ hbr).2 b rfl
        refine ⟨k + 1, by rw [h1]; simp [pushes, isPush]; omega, ⟨hi, .inl ⟨rfl, hx.guard, (hx.ran rfl).1, some b, _, _, rfl, hM.congr (fun _ _ => rfl) (fun b hb => get_app (allLt hrd b hb)) (fun b' hb' => (by cases hb'; exact get_app hb)), (by simp; omega), hcl⟩, ?_⟩, fun y hy q n blk' he => ?_⟩
        · have : nextP true o (padS (k + 1) s) ⟨v, rd, .kpush b s.heap.length blk, true⟩ = padS k (nextS o s ⟨v, rd, .kpush b s.heap.length blk, true⟩) := by
            simp only [nextP, pd, peff, nextS, padS, HEff.app, setB_eq, cond_true]
            rw [List.set_append_left _ _ hb, List.set_append_right _ _ (by simp)]
            simp [List.replicate_succ]
          rw [this]; exact h2
        · rcases List.mem_cons.1 hy with rfl | hy
          · simp only [bnk, cond_true, Option.some.injEq, Prod.mk.injEq] at he
            omega
          · have := h4 y hy q n blk' he
            omega
      | false =>
        simp only [chkP, cond_false, Bool.and_eq_true] at hc
        have hl : (nextS o s ⟨v, rd, .kpush b n blk, run⟩).heap.length = s.heap.length + 1 := by simp [nextS, HEff.app, setB_len]
        obtain ⟨k, h1, h2, h4⟩ := gpath_of hp (by rw [hl]; exact hc.2)
        rw [pushes_no hc.1] at h1
        subst h1
        have e0 : ∀ q : AS, padS 0 q = q := fun q => by simp [padS]
        refine ⟨0, by simp [pushes, isPush, pushes_no hc.1], ⟨hi, .inr ⟨rfl, by rw [e0]; exact hx⟩, ?_⟩, fun y hy q n blk' he => ?_⟩
        · rw [e0] at h2 ⊢
          exact h2
        · rcases List.mem_cons.1 hy with rfl | hy
          · cases he
          · have := noPush_mem hc.1 y hy
            exact (bnk_push he this).elim
    | mv b n blk => simp [chkP] at hc
    | all h' =>
      simp only [chkP, Bool.and_eq_true] at hc
      obtain ⟨k, h1, h2, h4⟩ := gpath_of hp hc.2
      rw [pushes_no hc.1] at h1
      subst h1
      have e0 : ∀ q : AS, padS 0 q = q := fun q => by simp [padS]
      refine ⟨0, by simp [pushes, isPush, pushes_no hc.1], ⟨hi, .inr ⟨rfl, by rw [e0]; exact hx⟩, ?_⟩, fun y hy q n blk' he => ?_⟩
      · rw [e0] at h2 ⊢
        exact h2
      · rcases List.mem_cons.1 hy with rfl | hy
        · cases he
        · have := noPush_mem hc.1 y hy
          exact (bnk_push he this).elim

theorem StOk.padS {E : Env} {s : AS} {a : Act} {W : World} (hs : StOk E s a W) (k : Nat) : StOk E (padS k s) a W := by
  have cas : ∀ {b x}, (s.heap ++ List.replicate k Blk.dead)[b]? = some x → x = Blk.dead ∨ s.heap[b]? = some x := fun {b x} hx => by
    rcases Nat.lt_or_ge b s.heap.length with h | h
    · rw [List.getElem?_append_left h] at hx; exact .inr hx
    · rw [List.getElem?_append_right h] at hx
      exact .inl (List.eq_of_mem_replicate (List.mem_of_getElem? hx))
  have hlen : s.heap.length ≤ (s.heap ++ List.replicate k Blk.dead).length := by simp
  refine ⟨hs.size, fun i v hi => ?_, hs.defers, fun b hb => Nat.lt_of_lt_of_le (hs.scope b hb) hlen, ⟨fun b x hx => ?_, fun b1 b2 x1 x2 h1 h2 m1 l1 l2 he => ?_⟩⟩
  · obtain ⟨x, hx, hv⟩ := hs.slots i v hi
    exact ⟨x, hx, hv.mono (Agree.refl _ _) hlen⟩
  · rcases cas hx with rfl | hx
    · trivial
    · exact (hs.heap.ok b x hx).frame (getElem?_lt hx) (Agree.refl _ _) hlen (fun o ho => ho)
  · rcases cas h1 with rfl | k1
    · simp [Blk.mine] at m1
    · rcases cas h2 with rfl | k2
      · simp [liveAt] at l2
      · exact hs.heap.inj _ _ _ _ k1 k2 m1 l1 l2 he
theorem StOk.noM {E : Env} {s : AS} {a : Act} {W : World} (hs : StOk E s a W) (k : Nat) {n : Nat} (hn : s.heap.length ≤ n) : NoM n (Eng.padS k s) := by
  refine ⟨fun v hv => ?_, fun blk hb => ?_, fun b hb => by have := hs.scope b hb; omega⟩
  · obtain ⟨i, hi⟩ := List.getElem?_of_mem hv
    obtain ⟨x, _, hr⟩ := hs.slots i v hi
    exact noV_of_VR hr hn
  · simp only [Eng.padS] at hb
    rcases List.mem_append.1 hb with hb | hb
    · obtain ⟨i, hi⟩ := List.getElem?_of_mem hb
      exact noBlk_of_ok (hs.heap.ok i blk hi) hn
    · rw [List.eq_of_mem_replicate hb]; rfl
theorem Mine.pad {E : Env} {h : List Blk} {k j : Nat} (hm : Mine E (h ++ List.replicate k .dead) j) : Mine E h j := by
  obtain ⟨b, x, hx, h1, h2, h3⟩ := hm
  rcases Nat.lt_or_ge b h.length with hlt | hge
  · rw [List.getElem?_append_left hlt] at hx; exact ⟨b, x, hx, h1, h2, h3⟩
  · rw [List.getElem?_append_right hge] at hx
    rw [List.eq_of_mem_replicate (List.mem_of_getElem? hx)] at h1
    simp [Blk.mine] at h1
theorem Mine.topad {E : Env} {h : List Blk} {k j : Nat} (hm : Mine E h j) : Mine E (h ++ List.replicate k .dead) j := by
  obtain ⟨b, x, hx, h1, h2, h3⟩ := hm
  exact ⟨b, x, by rw [List.getElem?_append_left (getElem?_lt hx)]; exact hx, h1, h2, h3⟩

theorem wpAny_of_births {kb : Bool} {r : Option Nat} {ops : List Oper} {n0 : Nat} {Q : Exit → Act → World → Prop} (hback : backB ops 0 = true) (L : List (Nat × Oper × Did)) (listed : Array Bool) (s e : AS) (E : Env) (a : Act) (W : World)
    (hsz : listed.size = ops.length) (hli : ∀ i, i < ops.length → (listed.getD i false = true ↔ i ∉ L.map (·.1))) (hop : ∀ x ∈ L, ops[x.1]? = some x.2.1) (hcl : closedL ops listed) (hasc : ascB L)
    (hfree : freeP kb ops.toArray (masks ops []) L = true) (hchk : chkP kb L s.heap.length = true) (h0 : n0 ≤ s.heap.length) (hp : PathOk P ops s L e) (hs : StOk E s a W)
    (hq : ∀ E' a' W', StOk E' e a' W' → TransN n0 E s.heap W E' e.heap W' → Q .normal a' W') : wpAnyIn (fen r) 0 P .any ops.toArray Q L.length listed a W := by
  obtain ⟨k, h1, h2, h4⟩ := gpath_of hp hchk
  have hlen : (padS k s).heap.length = s.heap.length + k := by simp [padS]
  refine wpAny_of_gpath (n0 := s.heap.length) hback L.length L listed (padS k s) e E a W rfl hsz hli hop hcl hasc hfree (by rw [hlen]; omega) (fun x hx q n blk he => ?_) h2 (hs.padS k) (fun E' a' W' hs' ht => ?_)
  · obtain ⟨q1, q2⟩ := h4 x hx q n blk he
    exact ⟨hs.noM k q1, by rw [hlen]; exact q2, q1⟩
  · refine hq E' a' W' hs' ⟨ht.agree.mono h0, Nat.le_trans h0 ht.len, fun j hj => ?_, fun j hj hn => ht.frame j hj fun hm => hn hm.pad, ht.size, ht.os, ht.tape, ht.output⟩
    rcases ht.mine j hj with h | h
    · exact .inl h.pad
    · exact .inr h
end
end Go.Eng

/- ENGINE, PART 8b: ranges over functions. -/
namespace Go.Eng
open Go

abbrev KC (R : Type) := XE → AS → Option R

/-- The round that a piece of code stands in. -/
def RdOk (E : Env) (n : Nat) (r : Option Nat) : Option Nat → Prop
  | none => r = none
  | some b => b < n ∧ r = some (E.blk b)
theorem RdOk.agree {E E' : Env} {n m : Nat} {r rd : Option Nat} (h : RdOk E n r rd) (hE : Agree n E E') (hm : n ≤ m) : RdOk E' m r rd := by
  cases rd with
  | none => exact h
  | some b => exact ⟨Nat.lt_of_lt_of_le h.1 hm, by rw [hE.blk b h.1]; exact h.2⟩
def SimC (P : Program) (n : Nat) (rd : Option Nat) (c : Code) (s : AS) (e : XE) (s' : AS) : Prop :=
  ∀ r E a W, StOk E s a W → RdOk E n r rd → n ≤ s.heap.length → c.wpIn (fen r) 0 P (fun e' a' W' => e' = e.toExit ∧ ∃ E', StOk E' s' a' W' ∧ TransN n E s.heap W E' s'.heap W') a W

/-- A block of ours is written a last time. -/
theorem Holds.retire {E : Env} {h : List Blk} {W : World} (hh : Holds E h W) {b : Nat} {blk : Blk} (hb : h[b]? = some blk) (hm : blk.mine = true) (hl : liveAt E b blk = true) (o : Obj) :
    Holds E (setB h b .dead) (World.putObj W (E.blk b) o) ∧ Trans E h W E (setB h b .dead) (World.putObj W (E.blk b) o) := by
  have hlt := getElem?_lt hb
  have cas : ∀ {b' x}, (setB h b .dead)[b']? = some x → (b' = b ∧ x = .dead) ∨ (b' ≠ b ∧ h[b']? = some x) := fun {b' x} hx => by
    rw [setB_eq] at hx
    by_cases e : b' = b
    · subst e; rw [List.getElem?_set_self hlt] at hx; injection hx with hx; exact .inl ⟨rfl, hx.symm⟩
    · rw [List.getElem?_set_ne (Ne.symm e)] at hx; exact .inr ⟨e, hx⟩
  have hlen : (setB h b .dead).length = h.length := by rw [setB_eq]; simp
  refine ⟨⟨fun b' x hx => ?_, fun b1 b2 x1 x2 h1 h2 m1 l1 l2 he => ?_⟩, ⟨Agree.refl _ _, by rw [hlen]; exact Nat.le_refl _, fun k hk => .inl ?_, fun k hk hn => ?_, by simp [World.putObj], rfl, rfl, rfl⟩⟩
  · rw [hlen]
    rcases cas hx with ⟨rfl, rfl⟩ | ⟨hne, hx⟩
    · trivial
    · cases hlx : liveAt E b' x with
      | false => exact (hh.ok b' x hx).absent (getElem?_lt hx) (Agree.refl _ _) (Nat.le_refl _) hlx
      | true =>
        have hd : E.blk b ≠ E.blk b' := fun he => hne (hh.inj b b' blk x hb hx hm hl hlx he).symm
        exact (hh.ok b' x hx).frame (getElem?_lt hx) (Agree.refl _ _) (Nat.le_refl _) (fun o ho => by rw [putObj_get hd]; exact ho)
  · rcases cas h1 with ⟨e1, e2⟩ | ⟨n1, k1⟩
    · subst e2; simp [Blk.mine] at m1
    · rcases cas h2 with ⟨e3, e4⟩ | ⟨n2, k2⟩
      · subst e4; simp [liveAt] at l2
      · exact hh.inj _ _ _ _ k1 k2 m1 l1 l2 he
  · obtain ⟨b', x, hx, h1, h2, h3⟩ := hk
    rcases cas hx with ⟨rfl, rfl⟩ | ⟨_, hx⟩
    · simp [Blk.mine] at h1
    · exact ⟨b', x, hx, h1, h2, h3⟩
  · have hd : E.blk b ≠ k := fun he => hn ⟨b, blk, hb, hm, hl, he⟩
    exact putObj_get hd

section
variable {R : Type} {P : Program} {C : Oracle}

/-- The call of the function, and what follows. -/
def rangeGo (C : Oracle) (gf : FuncId) (caps : List V) (l : Nat) (h : List Blk) (tmps : List V) (marks : List Nat) (k : KC R) : Option R :=
  match noTop caps with
  | true => C R (.fn gf) (.yield l :: caps) h (fun _ _ eff => match getB (eff.app h) l with
    | .loopB st _ _ _ _ _ _ => match st with
      | .ready => k .normal ⟨tmps, setB (eff.app h) l .dead, marks⟩
      | .done e => k e ⟨tmps, setB (eff.app h) l .dead, marks⟩
      | .busy => none
    | _ => none)
  | false => none
def rangeIn (C : Oracle) (rd : Option Nat) (me : FuncId) (g : Operand) (ps : Array Tmp) (assign body : Code) (s : AS) (k : KC R) : Option R :=
  match evalV s.tmps g with
  | .func gf caps => match rd with
    | none => rangeGo C gf caps (s.heap.length + 1) (s.heap ++ [.defs] ++ [.loopB .ready me s.tmps ps.toList assign body s.heap.length]) s.tmps (s.heap.length :: s.marks) k
    | some b0 => match getB s.heap b0 with
      | .loopB _ _ _ _ _ _ d => rangeGo C gf caps s.heap.length (s.heap ++ [.loopB .ready me s.tmps ps.toList assign body d]) s.tmps s.marks k
      | _ => none
  | _ => none

theorem wpIn_code {r : Option Nat} (e : XE) {Q : Exit → Act → World → Prop} {a : Act} {W : World} (h : Q e.toExit a W) : e.code.wpIn (fen r) 0 P Q a W := by
  cases e with
  | normal => exact wpIn_skip h
  | exit id => exact wpIn_exit h
  | ret => exact wpIn_ret h

/-- What follows the call. -/
theorem rangeGo_ok (hC : OracleOk P C) {gf : FuncId} {caps : List V} {l : Nat} {h : List Blk} {tmps : List V} {marks : List Nat} {k : KC R} {r : R} (hl : l < h.length) (hr : rangeGo C gf caps l h tmps marks k = some r) :
    ∃ e h', k e ⟨tmps, h', marks⟩ = some r ∧ Enterable P gf ∧ noTop caps = true ∧ ∀ (ro : Option Nat) E W (a : Act) (Q : Exit → Act → World → Prop), Holds E h W → inSs h.length caps = true →
      (∀ E' W', Holds E' h' W' → Trans E h W E' h' W' → Q e.toExit a W') →
      Calls P gf (concs E (.yield l :: caps)).toArray W (rangePost (fen ro) 0 P (E.blk l) Q a) := by
  unfold rangeGo at hr
  split at hr
  · rename_i hnt
    obtain ⟨v, rd, eff, hk, hs, he, H, _⟩ := hC R _ _ _ _ _ hr
    have hf : FnOK P gf (.yield l :: caps) h v (eff.app h) := H h hs
    have main : ∀ {st : LSt} {me : FuncId} {tm : List V} {ps : List Tmp} {asg bd : Code} {d : Nat} {e : XE}, getB (eff.app h) l = .loopB st me tm ps asg bd d → ((st = .ready ∧ e = .normal) ∨ st = .done e) → ∀ (ro : Option Nat) E W (a : Act) (Q : Exit → Act → World → Prop), Holds E h W → inSs h.length caps = true →
      (∀ E' W', Holds E' (setB (eff.app h) l .dead) W' → Trans E h W E' (setB (eff.app h) l .dead) W' → Q e.toExit a W') →
      Calls P gf (concs E (.yield l :: caps)).toArray W (rangePost (fen ro) 0 P (E.blk l) Q a) := by
      intro st me tm ps asg bd d e hst hcase ro E W a Q hh hin hQ
      have hb := getB_some hst (by simp)
      refine (hf E W hh (by simp only [inSs, inS, Bool.and_eq_true]; exact ⟨by simpa using hl, hin⟩)).mono ?_
      rintro en W' ⟨x, E', rfl, hx, hh', ht⟩
      have hok := hh'.ok l _ hb
      obtain ⟨_, fn, vs, _, hc⟩ := hok
      rw [← ht.agree.blk l hl]
      obtain ⟨q1, q2⟩ := hh'.retire hb rfl rfl (.loop { state := .exhausted, pending := st.pending, fn, tmps := vs, params := ps.toArray, assign := asg, body := bd, defers := E'.blk d })
      refine ⟨_, _, run_endLoop hc (by rcases hcase with ⟨rfl, _⟩ | rfl <;> simp [LSt.state]), ?_⟩
      rcases hcase with ⟨rfl, rfl⟩ | rfl
      · exact hQ E' _ q1 (ht.trans q2)
      · exact wpIn_code e (hQ E' _ q1 (ht.trans q2))
    split at hk
    · rename_i st me tm ps asg bd d hst
      split at hk
      · exact ⟨_, _, hk, he, hnt, main hst (.inl ⟨rfl, rfl⟩)⟩
      · exact ⟨_, _, hk, he, hnt, main hst (.inr rfl)⟩
      · cases hk
    · cases hk
  · cases hr

theorem StOk.newLoop {E E1 : Env} {s : AS} {a : Act} {W W1 : World} {h1 : List Blk} (hs : StOk E s a W) (hE : Agree s.heap.length E E1) (hl : s.heap.length ≤ h1.length) (hh : Holds E1 h1 W1) (me fn : FuncId) (ps : Array Tmp) (assign body : Code) (d : Nat) (hd : d < h1.length) :
    Holds (E1.put h1.length W1.heap.size 0 0 false) (h1 ++ [.loopB .ready me s.tmps ps.toList assign body d]) (W1.alloc (.loop { state := .ready, pending := none, fn, tmps := a.tmps, params := ps, assign, body, defers := E1.blk d })) ∧
    Trans E1 h1 W1 (E1.put h1.length W1.heap.size 0 0 false) (h1 ++ [.loopB .ready me s.tmps ps.toList assign body d]) (W1.alloc (.loop { state := .ready, pending := none, fn, tmps := a.tmps, params := ps, assign, body, defers := E1.blk d })) := by
  have hE1 := Agree.put E1 h1.length W1.heap.size 0 0 false
  refine hh.newBlk _ 0 0 _ ⟨by omega, fn, a.tmps, ⟨hs.size, fun i v hi => ?_⟩, ?_⟩
  · obtain ⟨x, hx, hr⟩ := hs.slots i v hi
    exact ⟨x, hx, (hr.mono hE hl).mono hE1 (Nat.le_succ _)⟩
  · have e0 : (E1.put h1.length W1.heap.size 0 0 false).blk h1.length = W1.heap.size := if_pos rfl
    rw [e0, hE1.blk d hd]
    simp only [Array.toArray_toList]
    exact World.alloc_heap_new _ _

theorem range_ok (hC : OracleOk P C) {n : Nat} {rd : Option Nat} {me : FuncId} {g : Operand} {ps : Array Tmp} {assign body : Code} {s : AS} {k : KC R} {r : R} (hr : rangeIn C rd me g ps assign body s k = some r) :
    ∃ e s', k e s' = some r ∧ SimC P n rd (.rangeFunc g ps assign body) s e s' := by
  unfold rangeIn at hr
  split at hr
  · rename_i gf caps hg
    -- the call
    have call : ∀ {E E1 : Env} {a : Act} {W W1 : World} {l n1 : Nat}, StOk E s a W → Agree s.heap.length E E1 → s.heap.length ≤ n1 → Enterable P gf →
        inSs n1 caps = true ∧ ∀ L, E1.blk l = L → (resolve a.eval (rangeCall g L) 0).run P W1 = .ok { target := .fn (.func gf) (concs E1 caps).toArray, args := #[.func (.yield L) #[] #[]] } W1 ∧
          (invoke (.fn (.func gf) (concs E1 caps).toArray) #[.func (.yield L) #[] #[]]).run P W1 = .ok (.enter gf (concs E1 (.yield l :: caps)).toArray) W1 := by
      intro E E1 a W W1 l n1 hs hE hn1 ⟨fn, hfn, hname, hbody⟩
      have h0 := hs.eval g
      rw [hg] at h0
      obtain ⟨e1, e2⟩ := (h0.mono hE hn1).val (by simp)
      refine ⟨by simpa [inS] using e2, fun L hL => ⟨?_, ?_⟩⟩
      · simp only [resolve, e1, conc, Deferred.ofValue, Sem.run_pure]
        simp [Act.eval]
      · simp only [invoke, callFunc, run_program, Sem.run_bind, Result.andThen_ok, hfn]
        rw [if_neg (by rw [hname]; simp), if_neg (by rw [hbody]; simp)]
        simp only [Sem.run_pure, concs, conc, hL]
        simp
    split at hr
    · obtain ⟨e, h', hk, hent, hnt, H⟩ := rangeGo_ok hC (by simp) hr
      refine ⟨e, _, hk, fun ro E a W hs hro hn => wpIn_rangeFunc fun fn _ => ?_⟩
      have hro : ro = none := hro
      subst hro
      have e0 : (E.put s.heap.length W.heap.size 0 0 false).blk s.heap.length = W.heap.size := if_pos rfl
      obtain ⟨q1, q2⟩ := hs.heap.newBlk (.deferred (some [])) 0 0 .defs (by
        unfold BlkOk
        rw [e0]; exact World.alloc_heap_new _ _)
      obtain ⟨q3, q4⟩ := hs.newLoop q2.agree q2.len q1 me fn ps assign body s.heap.length (by simp)
      rw [e0] at q3 q4
      have hlen : (s.heap ++ [Blk.defs]).length = s.heap.length + 1 := by simp
      have q5 := q2.trans q4
      obtain ⟨c1, c2⟩ := call (l := s.heap.length + 1) (W1 := (W.alloc (.deferred (some []))).alloc (.loop { state := .ready, pending := none, fn, tmps := a.tmps, params := ps, assign, body, defers := W.heap.size })) hs q5.agree q5.len hent
      have hblk : ((E.put s.heap.length W.heap.size 0 0 false).put (s.heap ++ [Blk.defs]).length (W.alloc (.deferred (some []))).heap.size 0 0 false).blk (s.heap.length + 1) = W.heap.size + 1 := by
        rw [← hlen]; simp [Env.put]
      obtain ⟨c3, c4⟩ := c2 _ hblk
      refine ⟨_, _, _, _, _, gf, _, _, run_enterLoop_outer _ _ _ _ _, c3, fun _ _ => trivial, c4, fun hx => by simp [fen] at hx, ?_⟩
      rw [← hblk]
      refine callsIn_wide.2 (H none _ _ _ _ q3 c1 fun E' W' hh' ht' => ⟨rfl, E', ⟨hs.size, fun i v hi => ?_, ?_, ?_, hh'⟩, (q5.trans ht').to hn⟩)
      · obtain ⟨x, hx, hr⟩ := hs.slots i v hi
        exact ⟨x, hx, hr.mono (q5.trans ht').agree (q5.trans ht').len⟩
      · have h2 : E'.blk s.heap.length = W.heap.size := by
          rw [(q4.trans ht').agree.blk s.heap.length (by simp), e0]
        simp only [marksOf, h2]
        rw [marksOf_agree (q5.trans ht').agree hs.scope, ← hs.defers]
        rfl
      · intro b hb
        have := (q4.trans ht').len
        have h3 := (q5.trans ht').len
        simp only [List.length_append, List.length_cons, List.length_nil] at this
        rcases List.mem_cons.1 hb with rfl | hb
        · show s.heap.length < h'.length
          omega
        · exact Nat.lt_of_lt_of_le (hs.scope b hb) h3
    · rename_i b0
      split at hr
      · rename_i st0 me0 tm0 ps0 as0 bd0 d hb0
        have hb0 := getB_some hb0 (by simp)
        obtain ⟨e, h', hk, hent, hnt, H⟩ := rangeGo_ok hC (by simp) hr
        refine ⟨e, _, hk, fun ro E a W hs hro hn => wpIn_rangeFunc fun fn _ => ?_⟩
        obtain ⟨hlt, hro⟩ := hro
        subst hro
        obtain ⟨hd, fn0, vs0, _, hc0⟩ := hs.heap.ok b0 _ hb0
        obtain ⟨q3, q4⟩ := hs.newLoop (Agree.refl _ _) (Nat.le_refl _) hs.heap me fn ps assign body d hd
        obtain ⟨c1, c2⟩ := call (l := s.heap.length) (W1 := W.alloc (.loop { state := .ready, pending := none, fn, tmps := a.tmps, params := ps, assign, body, defers := E.blk d })) hs q4.agree q4.len hent
        have hblk : (E.put s.heap.length W.heap.size 0 0 false).blk s.heap.length = W.heap.size := if_pos rfl
        obtain ⟨c3, c4⟩ := c2 _ hblk
        refine ⟨W.heap.size, [], _, _, _, gf, _, _, ?_, c3, fun _ _ => trivial, c4, fun hx => by simp [fen] at hx, ?_⟩
        · simp only [Instr.enterLoop, fen, Sem.run_bind, run_getLoop hc0, Result.andThen_ok, Sem.run_pure, run_newObj_alloc]
        · refine callsIn_wide.2 ?_
          have hcall := H (some (E.blk b0)) _ _ { tmps := a.tmps, defers := [] ++ a.defers } (fun e' a' W' => e' = e.toExit ∧ ∃ E', StOk E' ⟨s.tmps, h', s.marks⟩ a' W' ∧ TransN n E s.heap W E' h' W') q3 c1 fun E' W' hh' ht' => ⟨rfl, E', ⟨hs.size, fun i v hi => ?_, ?_, ?_, hh'⟩, (q4.trans ht').to hn⟩
          · rw [hblk] at hcall; exact hcall
          · obtain ⟨x, hx, hr⟩ := hs.slots i v hi
            exact ⟨x, hx, hr.mono (q4.trans ht').agree (q4.trans ht').len⟩
          · rw [marksOf_agree (q4.trans ht').agree hs.scope, ← hs.defers]
            rfl
          · intro b hb
            exact Nat.lt_of_lt_of_le (hs.scope b hb) (q4.trans ht').len
      · cases hr
  · cases hr
end
end Go.Eng

/- ENGINE, PART 9: code, loops, functions. -/
namespace Go.Eng
open Go

abbrev LoopSum := (R : Type) → Nat → Code → AS → KC R → Option (Option R)
/-- Loops that are known as a whole, by the number of the first region in their body; branches that are taken for granted, by the number of the first region of the first one. -/
structure Loops where
  sum : Nat → Option LoopSum
  dec : Nat → Option Bool

section
variable {R : Type} (P : Program) (C : Oracle) (L : Loops) (N : Nat) (n0 : Nat) (rd : Option Nat) (me : FuncId)

def aop (o : Oper) (ev : Operand → V) (h : List Blk) (K : KOp R) : Option R :=
  match o.op with
  | .move x => K (ev x) [] .none
  | .assign x => K (ev x) [] .none
  | .pick c a b => aPick (ev c) (ev a) (ev b) K
  | .alloc t => aAlloc P t h K
  | .box t x => aBox t (ev x) h K
  | .load t a => aLoadL P t (ev a) h K
  | .store t a x => aStoreX P t (ev a) (ev x) h K
  | .nilCheck x => aNilCheck (ev x) K
  | .binOp op t x y _ => aBinX P op t (ev x) (ev y) h K
  | .unOp op _ x => aUn op (ev x) K
  | .convert src dst x => aConv P src dst (ev x) h K
  | .makeFunc fn first caps => aMakeFunc fn first (mapEv ev caps.toList) K
  | .fieldAddr t x f => aFieldAddr P t (ev x) f K
  | .field t x f => aField P t (ev x) f K
  | .indexAddr t x i => aIndexAddrL P t (ev x) (ev i) h K
  | .index t x i => aIndex P t (ev x) (ev i) K
  | .extract t i => aExtract (ev t) i K
  | .build t parts => aBuild P t (partsEv ev parts.toList) K
  | .buildSlice t len parts => aBuildSlice P t len (partsEv ev parts.toList) h K
  | .makeSlice t len cap => aMake P t (ev len) (ev cap) h K
  | .slice t x low high max => aSliceL P t (ev x) (optE ev low) (optE ev high) (optE ev max) h K
  | .call c => match c.callee with
    | .value f => aCall C (ev f) (mapEv ev c.args.toList) h K
    | .builtin .min => aMinMax minI (mapEv ev c.args.toList) K
    | .builtin .max => aMinMax maxI (mapEv ev c.args.toList) K
    | .builtin .len => match c.args.toList, c.argTypes.toList with
      | [x], t :: _ => aLenL P t (ev x) h K
      | _, _ => none
    | .builtin .cap => match c.args.toList, c.argTypes.toList with
      | [x], t :: _ => aCap P t (ev x) h K
      | _, _ => none
    | .builtin .append => match c.args.toList, c.argTypes.toList with
      | [s, x], t :: u :: _ => aAppendY P t u (ev s) (ev x) h K
      | _, _ => none
    | .builtin .copy => match c.args.toList, c.argTypes.toList with
      | [s, x], t :: _ :: _ => aCopyX P t (ev s) (ev x) h K
      | _, _ => none
    | _ => none
  | _ => none

def getOp : List Oper → Nat → Option Oper
  | [], _ => none
  | o :: _, 0 => some o
  | _ :: r, n + 1 => getOp r n

def doIt (o : Oper) (s : AS) (k : Did → AS → Option R) : Option R :=
  aop P C o (evalV s.tmps) s.heap (fun v rd eff => k ⟨v, rd, eff, true⟩ ⟨putV s.tmps o.dst v, eff.app s.heap, s.marks⟩)
def skipIt (o : Oper) (s : AS) (k : Did → AS → Option R) : Option R :=
  k ⟨undefV, [], .none, false⟩ ⟨putV s.tmps o.dst undefV, s.heap, s.marks⟩
def runOp (ops : List Oper) (o : Oper) (s : AS) (k : Did → AS → Option R) : Option R :=
  match o.guard with
  | none => doIt P C o s k
  | some (j, want) => match getOp ops j with
    | none => skipIt o s k
    | some oj => match oj.dst with
      | none => skipIt o s k
      | some d => match getV s.tmps d with
        | .bool b => cond b
            (cond want (doIt P C o ⟨setV s.tmps d (.bool true), s.heap, s.marks⟩ k) (skipIt o ⟨setV s.tmps d (.bool true), s.heap, s.marks⟩ k))
            (cond want (skipIt o ⟨setV s.tmps d (.bool false), s.heap, s.marks⟩ k) (doIt P C o ⟨setV s.tmps d (.bool false), s.heap, s.marks⟩ k))
        | .tuple [] => skipIt o s k
        | _ => none
def runOps (ops : List Oper) : List Oper → Nat → AS → (AS → List (Nat × Oper × Did) → Option R) → Option R
  | [], _, s, k => k s []
  | o :: r, i, s, k => runOp P C ops o s (fun x s' => runOps ops r (i + 1) s' (fun e l => k e ((i, o, x) :: l)))

def refineS (c : Operand) (b : Bool) (s : AS) : AS := match c with
  | .tmp t => ⟨setV s.tmps t (.bool b), s.heap, s.marks⟩
  | _ => s

def loopN (f : AS → KC R → Option R) : Nat → AS → KC R → Option R
  | 0, _, _ => none
  | n + 1, s, k => f s (fun e s' => match e with
    | .normal => loopN f n s' k
    | e => k e s')

def firstReg : Code → Nat
  | .region id _ _ => id
  | .seq a _ => firstReg a
  | .block _ b => firstReg b
  | .loop b => firstReg b
  | .cond _ a _ => firstReg a
  | _ => 0

def evalCode : Code → AS → KC R → Option R
  | .skip, s, k => k .normal s
  | .label _, s, k => k .normal s
  | .region _ ops draw, s, k => runOps P C ops.toList ops.toList 0 s (fun e l =>
      cond draw (cond (backB ops.toList 0 && (freeB ops (masks ops.toList []) l || ((freeP false ops (masks ops.toList []) l && chkP false l s.heap.length) || (freeP true ops (masks ops.toList []) l && chkP true l s.heap.length)))) (k .normal e) none) (k .normal e))
  | .seq a b, s, k => evalCode a s (fun e s' => match e with
      | .normal => evalCode b s' k
      | e => k e s')
  | .cond c t f, s, k => match evalV s.tmps c with
      | .bool b => match L.dec (firstReg t) with
        | none => cond b (evalCode t (refineS c true s) k) (evalCode f (refineS c false s) k)
        | some true => cond b (evalCode t (refineS c true s) k) none
        | some false => cond b none (evalCode f (refineS c false s) k)
      | _ => none
  | .block id b, s, k => evalCode b s (fun e s' => match e with
      | .exit id' => cond (Nat.beq id' id) (k .normal s') (k (.exit id') s')
      | e => k e s')
  | .loop b, s, k => match L.sum (firstReg b) with
      | some f => match f R n0 b s k with
        | some o => o
        | none => loopN (fun s k => evalCode b s k) N s k
      | none => loopN (fun s k => evalCode b s k) N s k
  | .rangeFunc g ps assign body, s, k => rangeIn C rd me g ps assign body s k
  | .exit id, s, k => k (.exit id) s
  | .ret, s, k => k .ret s
  | _, _, _ => none
end

def LoopOk (P : Program) (f : LoopSum) : Prop := ∀ R n body s k (r : R), f R n body s k = some (some r) → ∃ e s', k e s' = some r ∧ ∀ rd, SimC P n rd (.loop body) s e s'
def loopsOk (P : Program) (L : Loops) : Prop := ∀ n f, L.sum n = some f → LoopOk P f
def noLoops : Loops := ⟨fun _ => none, fun _ => none⟩
theorem noLoops_ok {P : Program} : loopsOk P noLoops := fun _ _ h => by cases h
def decs (d : Nat → Option Bool) : Loops := ⟨fun _ => none, d⟩
theorem decs_ok {P : Program} {d : Nat → Option Bool} : loopsOk P (decs d) := fun _ _ h => by cases h

section
variable {R : Type} {P : Program} {C : Oracle} {L : Loops} {N : Nat} {n0 : Nat} {rd : Option Nat} {me : FuncId}

theorem aop_ok (hC : OracleOk P C) {o : Oper} {ev : Operand → V} {h : List Blk} {K : KOp R} : AopOk P o ev h (aop P C o ev h K) K := by
  unfold aop
  split
  · rename_i ho; exact ok_move ho
  · rename_i ho; exact ok_assign ho
  · rename_i ho; exact ok_pick ho
  · rename_i ho; exact ok_alloc ho
  · rename_i ho; exact ok_box ho
  · rename_i ho; exact ok_loadL ho
  · rename_i ho; exact ok_storeX ho
  · rename_i ho; exact ok_nilCheck ho
  · rename_i ho; exact ok_binX ho
  · rename_i ho; exact ok_un ho
  · rename_i ho; exact ok_conv ho
  · rename_i ho; rw [mapEv_eq]; exact ok_makeFunc ho
  · rename_i ho; exact ok_fieldAddr ho
  · rename_i ho; exact ok_field ho
  · rename_i ho; exact ok_indexAddrL ho
  · rename_i ho; exact ok_index ho
  · rename_i ho; exact ok_extract ho
  · rename_i ho; exact ok_build ho
  · rename_i ho; exact ok_buildSlice ho
  · rename_i ho; exact ok_make ho
  · rename_i ho; exact ok_sliceL ho
  · rename_i c ho
    split
    · rename_i f hc; exact ok_call hC ho hc
    · rename_i hc; exact ok_minmax ho hc (.inl rfl)
    · rename_i hc; exact ok_minmax ho hc (.inr rfl)
    · rename_i hc
      split
      · rename_i x t ts h1 h2
        exact ok_lenL ho hc (by rw [← Array.toArray_toList (xs := c.args), h1]) (by rw [← Array.toArray_toList (xs := c.argTypes), h2]; simp)
      · intro r hr; cases hr
    · rename_i hc
      split
      · rename_i x t ts h1 h2
        exact ok_cap ho hc (by rw [← Array.toArray_toList (xs := c.args), h1]) (by rw [← Array.toArray_toList (xs := c.argTypes), h2]; simp)
      · intro r hr; cases hr
    · rename_i hc
      split
      · rename_i y x t u ts h1 h2
        exact ok_appendY ho hc (by rw [← Array.toArray_toList (xs := c.args), h1]) (by rw [← Array.toArray_toList (xs := c.argTypes), h2]; simp) (by rw [← Array.toArray_toList (xs := c.argTypes), h2]; simp)
      · intro r hr; cases hr
    · rename_i hc
      split
      · rename_i y x t u ts h1 h2
        exact ok_copyX ho hc (by rw [← Array.toArray_toList (xs := c.args), h1]) (by rw [← Array.toArray_toList (xs := c.argTypes), h2]; simp)
      · intro r hr; cases hr
    · intro r hr; cases hr
  · intro r hr; cases hr

theorem getOp_eq (l : List Oper) (i : Nat) : getOp l i = l[i]? := by
  induction l generalizing i with
  | nil => rfl
  | cons u r ih => cases i <;> simp [getOp, ih]
theorem setV_same {l : List V} {d : Nat} {b : Bool} (h : getV l d = .bool b) : setV l d (.bool b) = l := by
  rw [getV_eq] at h
  rw [setV_eq]
  cases hd : l[d]? with
  | none => rw [hd] at h; simp [undefV] at h
  | some v =>
    rw [hd] at h
    simp only [Option.getD_some] at h
    subst h
    obtain ⟨hlt, hv⟩ := List.getElem?_eq_some_iff.1 hd
    rw [← hv]; exact List.set_getElem_self hlt

theorem doIt_ok (hC : OracleOk P C) {ops : List Oper} {o : Oper} {s : AS} {k : Did → AS → Option R} {r : R} (hr : doIt P C o s k = some r) (hg : guardA ops o s.tmps = some true) :
    ∃ x, k x (nextS o s x) = some r ∧ StepOk P ops o s x := by
  have hnd : ∀ c, o.op ≠ .defer c := fun c hc => by simp [doIt, aop, hc] at hr
  by_cases hal : ∃ t, o.op = .alloc t
  · obtain ⟨t, ho⟩ := hal
    have hr' : aAlloc P t s.heap (fun v rd eff => k ⟨v, rd, eff, true⟩ ⟨putV s.tmps o.dst v, eff.app s.heap, s.marks⟩) = some r := by
      simpa only [doIt, aop, ho] using hr
    unfold aAlloc at hr'
    split at hr'
    · rename_i z hz
      have hrun : ∀ (E : Env) (a : Act) (W : World), (execOp a.eval o).run P W = .ok (.value (.pointer (some ⟨W.heap.size, 0, none⟩))) (W.alloc (.cells (concs E (rowOfVs (zeroCells z)).toVs).toArray t)) := fun E a W => by
        rw [rowOfVs_vs]
        simp only [execOp, ho, Instr.alloc, Sem.run_bind, run_zeroOf hz, Result.andThen_ok, newVar, newRow, run_newObj, Sem.run_pure]
        simp [zeroCells_eq]
      have hin : ∀ m, inSs m (rowOfVs (zeroCells z)).toVs = true := fun m => by rw [rowOfVs_vs]; exact zeroCells_inS m z
      refine ⟨⟨.ptr s.heap.length 0, [], .push s.heap.length (.own t (rowOfVs (zeroCells z))), true⟩, hr', ⟨hg, fun _ => ⟨hnd, push_semR (fun n _ _ _ => hin n) (fun n E a W _ => hrun E a W), ⟨fun _ _ => rfl, rfl⟩⟩, fun h => (by cases h), ⟨fun _ _ n blk he => ?_, fun hap => (by simp [isApp, ho] at hap)⟩⟩⟩
      cases he
      intro h2 _ E a W hH hv hn hc next Q hk
      refine Oper.wpE_value (hrun E a W) (hk W.heap.size 0 0 0 false none _ _ (Keeps.alloc _ _) ⟨if_pos rfl, hin _, (0, 0), fun o _ hx => Nat.not_lt_zero _ hx.2, ?_⟩ (fun _ => Nat.le_refl _) (.inr ⟨by simp [inS, hn], by simp [conc, Env.one]⟩))
      rw [show (E.one s.heap.length W.heap.size 0 0 0 false none).blk s.heap.length = W.heap.size from if_pos rfl, concs_one _ (noRow_vss hc)]
      show (W.heap.push _)[W.heap.size]? = _
      simp
    · cases hr'
  · by_cases hbs : ∃ t n ps, o.op = .buildSlice t n ps
    · obtain ⟨t, n, ps, ho⟩ := hbs
      have hr' : aBuildSlice P t n (partsEv (evalV s.tmps) ps.toList) s.heap (fun v rd eff => k ⟨v, rd, eff, true⟩ ⟨putV s.tmps o.dst v, eff.app s.heap, s.marks⟩) = some r := by
        simpa only [doIt, aop, ho] using hr
      obtain ⟨e, sz, m, hk, hz, hl, hrun⟩ := buildSlice_inv ho hr'
      refine ⟨⟨.gs s.heap.length, [], .push s.heap.length (.grow true e sz (rowLong m)), true⟩, hk, ⟨hg, fun _ => ⟨hnd, newSlice_sem (len := n) (cap := n) hz (by rw [rowLong_len]; exact hl) (Nat.le_refl _) (fun q E a hv => by rw [rowLong_vs]; exact (hrun q E a hv).1) fun q E a W hv => ?_, ⟨fun _ _ => rfl, rfl⟩⟩, fun h => (by cases h), ⟨fun _ _ n' blk he => ?_, fun hap => (by simp [isApp, ho] at hap)⟩⟩⟩
      · exact ⟨[], (0, 0), fun o ho h => by omega, by rw [rowLong_len]; simp only [List.length_nil, Nat.add_zero]; omega, by rw [List.append_nil, rowLong_vs]; exact (hrun q E a hv).2 W⟩
      · cases he
        intro h2 _ E a W hH hv hn hc next Q hk
        obtain ⟨q1, q2⟩ := hrun _ E a hv
        refine Oper.wpE_value (q2 W) (hk W.heap.size 0 n n false none _ _ (Keeps.alloc _ _) ⟨if_pos rfl, by rw [rowLong_vs]; exact q1, hz, by rw [rowLong_len]; simp [Env.one, hl], by simp [Env.one], fun h => by simp [Env.one] at h, fun _ => ⟨(0, 0), [], fun o _ hx => Nat.not_lt_zero _ hx.2, by rw [rowLong_len]; simp [Env.one, hl], ?_⟩⟩ (fun _ => Nat.le_refl _) (.inr ⟨by simp [inS, hn], by simp [conc, Env.one]⟩))
        rw [show (E.one s.heap.length W.heap.size 0 n n false none).blk s.heap.length = W.heap.size from if_pos rfl, concs_one _ (noRow_vss (r := rowLong m) hc), List.append_nil, rowLong_vs]
        show (W.heap.push _)[W.heap.size]? = _
        simp
    · by_cases hcl : ∃ c f, o.op = .call c ∧ c.callee = .value f
      · obtain ⟨c, f, ho, hc⟩ := hcl
        have hr' : aCall C (evalV s.tmps f) (mapEv (evalV s.tmps) c.args.toList) s.heap (fun v rd eff => k ⟨v, rd, eff, true⟩ ⟨putV s.tmps o.dst v, eff.app s.heap, s.marks⟩) = some r := by
          simpa only [doIt, aop, ho, hc] using hr
        obtain ⟨v, rd, eff, hk, hs, hx, hB⟩ := ok_callB hC ho hc hr'
        exact ⟨⟨v, rd, eff, true⟩, hk, ⟨hg, fun _ => ⟨hnd, hx, hs⟩, fun h => (by cases h), ⟨fun _ _ n blk he => hB n blk he, fun hap => (by simp [isApp, ho, hc] at hap)⟩⟩⟩
      · have nb : isBorn o = true → False := fun hb => by
          unfold isBorn at hb
          split at hb
          · rename_i t ht; exact hal ⟨t, ht⟩
          · rename_i t n ps ht; exact hbs ⟨t, n, ps, ht⟩
          · rename_i c ht
            split at hb
            · rename_i f hf; exact hcl ⟨c, f, ht, hf⟩
            · cases hb
          · cases hb
        by_cases hap : isApp o = true
        · have hp := hap
          unfold isApp at hp
          split at hp
          · rename_i c ho
            split at hp
            · rename_i hc
              have hr' := hr
              simp only [doIt, aop, ho, hc] at hr'
              split at hr'
              · rename_i sx x t u hl h2 h3
                obtain ⟨v, rd, eff, hk, hs, hx, hM⟩ := ok_appendYM ho hc (by apply Array.ext'; rw [h2]) (by rw [← Array.getElem?_toList, h3]; rfl) (by rw [← Array.getElem?_toList, h3]; rfl) hr'
                exact ⟨⟨v, rd, eff, true⟩, hk, ⟨hg, fun _ => ⟨hnd, hx, hs⟩, fun h => (by cases h), ⟨fun hb => (nb hb).elim, fun _ _ => hM⟩⟩⟩
              · cases hr'
            · cases hp
          · cases hp
        · obtain ⟨v, rd, eff, hk, hs, hx⟩ := aop_ok hC r hr
          exact ⟨⟨v, rd, eff, true⟩, hk, ⟨hg, fun _ => ⟨hnd, hx, hs⟩, fun h => (by cases h), ⟨fun hb => (nb hb).elim, fun h => absurd h hap⟩⟩⟩
theorem skipIt_ok {ops : List Oper} {o : Oper} {s : AS} {k : Did → AS → Option R} {r : R} (hr : skipIt o s k = some r) (hg : guardA ops o s.tmps = some false) :
    ∃ x, k x (nextS o s x) = some r ∧ StepOk P ops o s x :=
  ⟨⟨undefV, [], .none, false⟩, hr, ⟨hg, fun h => (by cases h), fun _ => ⟨rfl, rfl, rfl⟩, .idle rfl⟩⟩
theorem runOp_ok (hC : OracleOk P C) {ops : List Oper} {o : Oper} {s : AS} {k : Did → AS → Option R} {r : R} (hr : runOp P C ops o s k = some r) :
    ∃ x, k x (nextS o s x) = some r ∧ StepOk P ops o s x := by
  unfold runOp at hr
  split at hr
  · rename_i hg; exact doIt_ok hC hr (by simp [guardA, hg])
  · rename_i j want hg
    rw [getOp_eq] at hr
    split at hr
    · rename_i hj; exact skipIt_ok hr (by simp [guardA, hg, hj])
    · rename_i oj hj
      split at hr
      · rename_i hd; exact skipIt_ok hr (by simp [guardA, hg, hj, hd])
      · rename_i d hd
        split at hr
        · rename_i b hb
          have hga : guardA ops o s.tmps = some (eqB b want) := by simp [guardA, hg, hj, hd, hb]
          cases b
          · simp only [cond_false, setV_same hb] at hr
            cases want
            · exact doIt_ok hC hr hga
            · exact skipIt_ok hr hga
          · simp only [cond_true, setV_same hb] at hr
            cases want
            · exact skipIt_ok hr hga
            · exact doIt_ok hC hr hga
        · rename_i hb; exact skipIt_ok hr (by simp [guardA, hg, hj, hd, hb])
        · cases hr
theorem runOps_ok (hC : OracleOk P C) {ops : List Oper} : ∀ {rest : List Oper} {i : Nat} {s : AS} {k : AS → List (Nat × Oper × Did) → Option R} {r : R}, runOps P C ops rest i s k = some r → ops.drop i = rest →
    ∃ e l, k e l = some r ∧ PathOk P ops s l e ∧ l.map (·.1) = List.range' i rest.length ∧ (∀ x ∈ l, ops[x.1]? = some x.2.1) ∧ ascB l ∧ (∀ x ∈ l, i ≤ x.1)
  | [], i, s, k, r, hr, _ => ⟨s, [], hr, rfl, rfl, fun x hx => (by cases hx), trivial, fun x hx => (by cases hx)⟩
  | o :: rest, i, s, k, r, hr, hd => by
    unfold runOps at hr
    obtain ⟨x, hk, hx⟩ := runOp_ok hC hr
    have ho : ops[i]? = some o := by
      have := congrArg (fun l => l[0]?) hd
      simpa using this
    obtain ⟨e, l, h1, h2, h3, h4, h5, h6⟩ := runOps_ok hC hk (by rw [← List.drop_drop, hd]; rfl)
    refine ⟨e, (i, o, x) :: l, h1, ⟨ho, hx, h2⟩, by simp [h3, List.range'_succ], fun y hy => ?_, ⟨fun y hy => by have := h6 y hy; omega, h5⟩, fun y hy => ?_⟩
    · rcases List.mem_cons.1 hy with rfl | hy
      · exact ho
      · exact h4 y hy
    · rcases List.mem_cons.1 hy with rfl | hy
      · exact Nat.le_refl _
      · have := h6 y hy; omega

theorem region_ok (hC : OracleOk P C) (hm : P.follows .mixedOrders = true) {id : Nat} {ops : Array Oper} {draw : Bool} {s : AS} {k : KC R} {r : R}
    (hr : evalCode P C L N n0 rd me (.region id ops draw) s k = some r) : ∃ e s', k e s' = some r ∧ SimC P n0 rd (.region id ops draw) s e s' := by
  unfold evalCode at hr
  obtain ⟨e, l, h1, h2, h3, h4, h5, h6⟩ := runOps_ok hC hr rfl
  cases draw with
  | false =>
    refine ⟨.normal, e, h1, fun ro E a W hs _ hn => wpIn_region ?_⟩
    have := h2.seq (r := ro) (Q := fun e' a' W' => e' = XE.normal.toExit ∧ ∃ E', StOk E' e a' W' ∧ TransN n0 E s.heap W E' e.heap W') hs (fun E' a' W' h ht => ⟨rfl, E', h, ht.to hn⟩)
    rw [h3, ← List.range_eq_range'] at this
    simpa using this
  | true =>
    simp only [cond_true] at h1
    cases hb : (backB ops.toList 0 && (freeB ops (masks ops.toList []) l || ((freeP false ops (masks ops.toList []) l && chkP false l s.heap.length) || (freeP true ops (masks ops.toList []) l && chkP true l s.heap.length)))) with
    | false => rw [hb] at h1; cases h1
    | true =>
      rw [hb] at h1
      simp only [Bool.and_eq_true, Bool.or_eq_true] at hb
      have hlen : l.length = ops.toList.length := by
        have := congrArg List.length h3; simpa using this
      refine ⟨.normal, e, h1, fun ro E a W hs _ hn => wpIn_region_any hm ?_⟩
      have hs' : StOk E s a W.drew := ⟨hs.size, hs.slots, hs.defers, hs.scope, hs.heap.drew⟩
      have hli : ∀ i, i < ops.toList.length → ((Array.replicate ops.size false).getD i false = true ↔ i ∉ l.map (·.1)) := fun i hi => by
        rw [h3]
        have hi' : i < ops.size := by simpa using hi
        constructor
        · intro h; simp [hi'] at h
        · intro h; exact absurd (List.mem_range'.2 ⟨i, by simpa using hi', by omega⟩) h
      have hcl : closedL ops.toList (Array.replicate ops.size false) := fun k o hk hl => by
        have hk' : k < ops.size := by have := getElem?_lt hk; simpa using this
        simp [hk'] at hl
      rcases hb.2 with hf | ⟨hf, hchk⟩ | ⟨hf, hchk⟩
      · have := wpAny_of_path (P := P) (r := ro) (Q := fun e' a' W' => e' = XE.normal.toExit ∧ ∃ E', StOk E' e a' W' ∧ TransN n0 E s.heap W E' e.heap W') hb.1 l.length l (Array.replicate ops.size false) s e E a W.drew rfl (by simp)
          hli h4 hcl h5 (by simpa using hf) h2 hs' (fun E' a' W' h ht => ⟨rfl, E', h, (Trans.drew.trans ht).to hn⟩)
        rw [hlen] at this
        simpa using this
      · have := wpAny_of_births (P := P) (r := ro) (n0 := n0) (Q := fun e' a' W' => e' = XE.normal.toExit ∧ ∃ E', StOk E' e a' W' ∧ TransN n0 E s.heap W E' e.heap W') hb.1 l (Array.replicate ops.size false) s e E a W.drew (by simp)
          hli h4 hcl h5 (by simpa using hf) hchk hn h2 hs' (fun E' a' W' h ht => ⟨rfl, E', h, (Trans.drew.to hn).trans ht⟩)
        rw [hlen] at this
        simpa using this
      · have := wpAny_of_births (P := P) (r := ro) (n0 := n0) (Q := fun e' a' W' => e' = XE.normal.toExit ∧ ∃ E', StOk E' e a' W' ∧ TransN n0 E s.heap W E' e.heap W') hb.1 l (Array.replicate ops.size false) s e E a W.drew (by simp)
          hli h4 hcl h5 (by simpa using hf) hchk hn h2 hs' (fun E' a' W' h ht => ⟨rfl, E', h, (Trans.drew.to hn).trans ht⟩)
        rw [hlen] at this
        simpa using this

theorem loopN_ok {body : Code} {f : AS → KC R → Option R} (hf : ∀ s k r, f s k = some r → ∃ e s', k e s' = some r ∧ SimC P n0 rd body s e s') :
    ∀ (n : Nat) (s : AS) (k : KC R) (r : R), loopN f n s k = some r → ∃ e s', k e s' = some r ∧
      ∀ ro E a W, StOk E s a W → RdOk E n0 ro rd → n0 ≤ s.heap.length → ∀ Q : Exit → Act → World → Prop, (∀ E' a' W', StOk E' s' a' W' → TransN n0 E s.heap W E' s'.heap W' → Q e.toExit a' W') → Code.roundsIn (fen ro) 0 P body Q n a W
  | 0, s, k, r, h => by simp [loopN] at h
  | n + 1, s, k, r, h => by
    unfold loopN at h
    obtain ⟨e, s1, h1, hsim⟩ := hf s _ r h
    have leave : ∀ (e : XE), e ≠ .normal → SimC P n0 rd body s e s1 → k e s1 = some r → ∃ e s', k e s' = some r ∧
        ∀ ro E a W, StOk E s a W → RdOk E n0 ro rd → n0 ≤ s.heap.length → ∀ Q : Exit → Act → World → Prop, (∀ E' a' W', StOk E' s' a' W' → TransN n0 E s.heap W E' s'.heap W' → Q e.toExit a' W') → Code.roundsIn (fen ro) 0 P body Q (n + 1) a W := fun e hne hsim hk => by
      refine ⟨e, s1, hk, fun ro E a W hs hro hn Q hQ => ?_⟩
      rw [roundsIn_succ]
      refine wpIn_mono (hsim ro E a W hs hro hn) ?_
      rintro e' a' W' ⟨rfl, E', hs', ht⟩
      cases e with
      | normal => exact absurd rfl hne
      | exit id => exact hQ E' a' W' hs' ht
      | ret => exact hQ E' a' W' hs' ht
    cases e with
    | normal =>
      simp only at h1
      obtain ⟨e2, s2, h2, hsim2⟩ := loopN_ok hf n s1 k r h1
      refine ⟨e2, s2, h2, fun ro E a W hs hro hn Q hQ => ?_⟩
      rw [roundsIn_succ]
      refine wpIn_mono (hsim ro E a W hs hro hn) ?_
      rintro e' a' W' ⟨rfl, E', hs', ht⟩
      exact hsim2 ro E' a' W' hs' (hro.agree ht.agree (Nat.le_refl _)) ht.len Q (fun E'' a'' W'' hs'' ht' => hQ E'' a'' W'' hs'' (ht.trans ht'))
    | exit id => exact leave _ (by simp) hsim h1
    | ret => exact leave _ (by simp) hsim h1

theorem evalCode_ok (hC : OracleOk P C) (hm : P.follows .mixedOrders = true) (hl : loopsOk P L) : ∀ {c : Code} {s : AS} {k : KC R} {r : R}, evalCode P C L N n0 rd me c s k = some r → ∃ e s', k e s' = some r ∧ SimC P n0 rd c s e s'
  | .skip, s, k, r, hr => ⟨.normal, s, hr, fun _ E a W hs _ hn => wpIn_skip ⟨rfl, E, hs, (Trans.refl _ _ _).to hn⟩⟩
  | .label _, s, k, r, hr => ⟨.normal, s, hr, fun _ E a W hs _ hn => wpIn_label ⟨rfl, E, hs, (Trans.refl _ _ _).to hn⟩⟩
  | .exit id, s, k, r, hr => ⟨.exit id, s, hr, fun _ E a W hs _ hn => wpIn_exit ⟨rfl, E, hs, (Trans.refl _ _ _).to hn⟩⟩
  | .ret, s, k, r, hr => ⟨.ret, s, hr, fun _ E a W hs _ hn => wpIn_ret ⟨rfl, E, hs, (Trans.refl _ _ _).to hn⟩⟩
  | .region id ops draw, s, k, r, hr => region_ok hC hm hr
  | .seq x y, s, k, r, hr => by
    unfold evalCode at hr
    obtain ⟨e, s1, h1, hsim⟩ := evalCode_ok hC hm hl hr
    have leave : ∀ (e : XE), e ≠ .normal → SimC P n0 rd x s e s1 → k e s1 = some r → ∃ e s', k e s' = some r ∧ SimC P n0 rd (.seq x y) s e s' := fun e hne hsim hk => by
      refine ⟨e, s1, hk, fun ro E a W hs hro hn => wpIn_seq (wpIn_mono (hsim ro E a W hs hro hn) ?_)⟩
      rintro e' a' W' ⟨rfl, E', hs', ht⟩
      cases e with
      | normal => exact absurd rfl hne
      | exit id => exact ⟨rfl, E', hs', ht⟩
      | ret => exact ⟨rfl, E', hs', ht⟩
    cases e with
    | normal =>
      simp only at h1
      obtain ⟨e2, s2, h2, hsim2⟩ := evalCode_ok hC hm hl h1
      refine ⟨e2, s2, h2, fun ro E a W hs hro hn => wpIn_seq (wpIn_mono (hsim ro E a W hs hro hn) ?_)⟩
      rintro e' a' W' ⟨rfl, E', hs', ht⟩
      refine wpIn_mono (hsim2 ro E' a' W' hs' (hro.agree ht.agree (Nat.le_refl _)) ht.len) ?_
      rintro e'' a'' W'' ⟨rfl, E'', hs'', ht'⟩
      exact ⟨rfl, E'', hs'', ht.trans ht'⟩
    | exit id => exact leave _ (by simp) hsim h1
    | ret => exact leave _ (by simp) hsim h1
  | .cond c x y, s, k, r, hr => by
    unfold evalCode at hr
    split at hr
    · rename_i b hb
      have hrefine : refineS c b s = s := by
        unfold refineS
        split
        · rename_i t; rw [setV_same (by simpa [evalV] using hb)]
        · rfl
      have hval : ∀ {E : Env} {a : Act} {W : World}, StOk E s a W → a.eval c = .bool b := fun hs => by
        have := hs.eval c; rw [hb] at this; exact this.bool
      have yes : b = true → ∀ {r}, evalCode P C L N n0 rd me x s k = some r → ∃ e s', k e s' = some r ∧ SimC P n0 rd (.cond c x y) s e s' := fun hb r hq => by
        subst hb
        obtain ⟨e, s', h1, hsim⟩ := evalCode_ok hC hm hl hq
        exact ⟨e, s', h1, fun ro E a W hs hro hn => wpIn_cond_true (hval hs) (hsim ro E a W hs hro hn)⟩
      have no : b = false → ∀ {r}, evalCode P C L N n0 rd me y s k = some r → ∃ e s', k e s' = some r ∧ SimC P n0 rd (.cond c x y) s e s' := fun hb r hq => by
        subst hb
        obtain ⟨e, s', h1, hsim⟩ := evalCode_ok hC hm hl hq
        exact ⟨e, s', h1, fun ro E a W hs hro hn => wpIn_cond_false (hval hs) (hsim ro E a W hs hro hn)⟩
      split at hr <;> cases b <;> simp only [cond_true, cond_false, hrefine] at hr
      all_goals first
        | (exact yes rfl hr)
        | (exact no rfl hr)
        | (cases hr)
    · cases hr
  | .block id x, s, k, r, hr => by
    unfold evalCode at hr
    obtain ⟨e, s1, h1, hsim⟩ := evalCode_ok hC hm hl hr
    cases e with
    | normal =>
      refine ⟨.normal, s1, h1, fun ro E a W hs hro hn => wpIn_block (wpIn_mono (hsim ro E a W hs hro hn) ?_)⟩
      rintro e' a' W' ⟨rfl, E', hs', ht⟩
      exact ⟨rfl, E', hs', ht⟩
    | ret =>
      refine ⟨.ret, s1, h1, fun ro E a W hs hro hn => wpIn_block (wpIn_mono (hsim ro E a W hs hro hn) ?_)⟩
      rintro e' a' W' ⟨rfl, E', hs', ht⟩
      exact ⟨rfl, E', hs', ht⟩
    | exit id' =>
      simp only at h1
      cases hid : Nat.beq id' id with
      | true =>
        rw [hid] at h1
        have := Nat.eq_of_beq_eq_true hid
        subst this
        refine ⟨.normal, s1, h1, fun ro E a W hs hro hn => wpIn_block (wpIn_mono (hsim ro E a W hs hro hn) ?_)⟩
        rintro e' a' W' ⟨rfl, E', hs', ht⟩
        simp only [XE.toExit, Exit.inBlock, if_true]
        exact ⟨trivial, E', hs', ht⟩
      | false =>
        rw [hid] at h1
        refine ⟨.exit id', s1, h1, fun ro E a W hs hro hn => wpIn_block (wpIn_mono (hsim ro E a W hs hro hn) ?_)⟩
        rintro e' a' W' ⟨rfl, E', hs', ht⟩
        have : id' ≠ id := fun e => by subst e; simp at hid
        simp only [XE.toExit, Exit.inBlock, if_neg this]
        exact ⟨trivial, E', hs', ht⟩
  | .loop b, s, k, r, hr => by
    have unroll : loopN (fun s k => evalCode P C L N n0 rd me b s k) N s k = some r → ∃ e s', k e s' = some r ∧ SimC P n0 rd (.loop b) s e s' := fun hr => by
      obtain ⟨e, s', h1, H⟩ := loopN_ok (P := P) (n0 := n0) (rd := rd) (body := b) (fun s k r h => evalCode_ok hC hm hl h) N s k r hr
      exact ⟨e, s', h1, fun ro E a W hs hro hn => wpIn_loop_rounds N (H ro E a W hs hro hn _ fun E' a' W' hs' ht => ⟨rfl, E', hs', ht⟩)⟩
    unfold evalCode at hr
    split at hr
    · rename_i f hf
      split at hr
      · rename_i o ho
        subst hr
        obtain ⟨e, s', h1, H⟩ := hl _ f hf R n0 b s k r ho
        exact ⟨e, s', h1, H rd⟩
      · exact unroll hr
    · exact unroll hr
  | .rangeFunc .., _, _, _, hr => by unfold evalCode at hr; exact range_ok hC hr
  | .scope _, _, _, _, hr => by unfold evalCode at hr; cases hr
  | .goto _, _, _, _, hr => by unfold evalCode at hr; cases hr
  | .refuse _, _, _, _, hr => by unfold evalCode at hr; cases hr

/-! ### functions -/
def resV (P : Program) (h : List Blk) (tmps : List V) : List ResultVar → (List V → Option R) → Option R
  | [], K => K []
  | .tmp t :: r, K => match getV tmps t with
    | .top => none
    | v => resV P h tmps r (fun l => K (v :: l))
  | .cell a t :: r, K => aLoad P t (getV tmps a) h (fun v _ _ => resV P h tmps r (fun l => K (v :: l)))
def undefs : Nat → List V
  | 0 => []
  | n + 1 => undefV :: undefs n
def oneRes : List V → V
  | [v] => v
  | l => .tuple l
/-- The marks of the ranges over functions are come to. -/
def takeMarks (h : List Blk) : List Nat → (List Blk → Option R) → Option R
  | [], K => K h
  | m :: r, K => match getB h m with
    | .defs => takeMarks (setB h m .dead) r K
    | _ => none
def evalFn (P : Program) (C : Oracle) (L : Loops) (N : Nat) (me : FuncId) (fn : Func) (args : List V) (h : List Blk) (K : V → List Blk → Option R) : Option R :=
  match fn.body with
  | some c => evalCode P C L N h.length none me c ⟨appV args (undefs (fn.ntmps - args.length)), h, []⟩ (fun e s => match e with
    | .exit _ => none
    | _ => takeMarks s.heap s.marks (fun h' => resV P h' s.tmps fn.results.toList (fun l => K (oneRes l) h')))
  | none => none

theorem undefs_eq (n : Nat) : undefs n = List.replicate n undefV := by
  induction n with
  | zero => rfl
  | succ n ih => simp [undefs, ih, List.replicate_succ]

def resM (tmps : Array Value) : ResultVar → Sem Value
  | .tmp t => pure (tmps.getD t undef)
  | .cell b t => do loadVar t (← asAddr (tmps.getD b undef))
theorem resV_ok {h : List Blk} {tmps : List V} : ∀ {rs : List ResultVar} {K : List V → Option R} {r : R}, resV P h tmps rs K = some r → ∃ l, K l = some r ∧
    ∀ E a W, StOk E ⟨tmps, h, []⟩ a W → inSs h.length l = true ∧
      (rs.mapM (resM a.tmps)).run P W = .ok (concs E l) W
  | [], K, r, hr => ⟨[], hr, fun E a W hs => ⟨rfl, rfl⟩⟩
  | .tmp t :: rs, K, r, hr => by
    unfold resV at hr
    split at hr
    · cases hr
    · rename_i hnt
      obtain ⟨l, hk, H⟩ := resV_ok hr
      refine ⟨_, hk, fun E a W hs => ?_⟩
      obtain ⟨h1, h2⟩ := H E a W hs
      have h0 := hs.eval (.tmp t)
      simp only [evalV, Act.eval] at h0
      obtain ⟨e1, e2⟩ := h0.val (fun e => hnt e)
      refine ⟨by simp only [inSs, Bool.and_eq_true]; exact ⟨e2, h1⟩, ?_⟩
      have hm : (resM a.tmps (.tmp t)).run P W = .ok (conc E (getV tmps t)) W := by simp only [resM, Sem.run_pure, e1]
      simp only [List.mapM_cons, Sem.run_bind, hm, Sem.run_pure, Result.andThen_ok, h2, concs]
  | .cell b t :: rs, K, r, hr => by
    unfold resV at hr
    obtain ⟨v, rd, eff, hk, hx⟩ := aLoad_run hr
    obtain ⟨l, hk, H⟩ := resV_ok hk
    refine ⟨_, hk, fun E a W hs => ?_⟩
    obtain ⟨h1, h2⟩ := H E a W hs
    have h0 := hs.eval (.tmp b)
    simp only [evalV, Act.eval] at h0
    obtain ⟨h3, ad, e1, h4⟩ := hx E W hs.heap _ h0
    refine ⟨by simp only [inSs, Bool.and_eq_true]; exact ⟨h3, h1⟩, ?_⟩
    have hm : (resM a.tmps (.cell b t)).run P W = .ok (conc E v) W := by simp only [resM, Sem.run_bind, e1, asAddr, Sem.run_pure, Result.andThen_ok, h4]
    simp only [List.mapM_cons, Sem.run_bind, hm, Sem.run_pure, Result.andThen_ok, h2, concs]

theorem results_eq (fn : Func) (tmps : Array Value) : results fn tmps = (do
    let vs ← fn.results.mapM (resM tmps)
    pure (if h : vs.size = 1 then vs[0] else .tuple vs)) := by
  unfold results
  congr 1
theorem oneRes_conc (E : Env) (l : List V) (W : World) {P : Program} (fn : Func) (tmps : Array Value) (h : (fn.results.toList.mapM (resM tmps)).run P W = .ok (concs E l) W) :
    (results fn tmps).run P W = .ok (conc E (oneRes l)) W := by
  rw [results_eq]
  have hm : (fn.results.mapM (resM tmps)).run P W = .ok (concs E l).toArray W := by
    have : fn.results.mapM (resM tmps) = List.toArray <$> fn.results.toList.mapM (resM tmps) := by
      rw [← List.mapM_toArray, Array.toArray_toList]
    rw [this, Sem.run_map, h]
    rfl
  rw [Sem.run_bind, hm]
  simp only [Result.andThen_ok, Sem.run_pure]
  congr 1
  match l with
  | [v] => simp [oneRes, concs]
  | [] => simp [oneRes, concs, conc]
  | u :: v :: r => simp [oneRes, concs, conc]

theorem takeMarks_ok {fn : Func} {tmps : List V} : ∀ {ms : List Nat} {h : List Blk} {K : List Blk → Option R} {r : R}, takeMarks h ms K = some r → ∃ h', K h' = some r ∧
    ∀ {E : Env} {a : Act} {W : World} {Rp : Ending → World → Prop}, StOk E ⟨tmps, h, ms⟩ a W →
      (∀ W', StOk E ⟨tmps, h', []⟩ { tmps := a.tmps, defers := [] } W' → Trans E h W E h' W' → LeavesInM (fen none) 0 P fn a.tmps Rp [] .returning W') →
      LeavesInM (fen none) 0 P fn a.tmps Rp a.defers .returning W
  | [], h, K, r, hr => by
    refine ⟨h, hr, fun {E a W Rp} hs H => ?_⟩
    have hd : a.defers = [] := hs.defers
    rw [hd]
    exact H W ⟨hs.size, hs.slots, rfl, hs.scope, hs.heap⟩ (Trans.refl _ _ _)
  | m :: ms, h, K, r, hr => by
    unfold takeMarks at hr
    split at hr
    · rename_i hm
      have hb := getB_some hm (by simp)
      obtain ⟨h', hk, H⟩ := takeMarks_ok (tmps := tmps) hr
      refine ⟨h', hk, fun {E a W Rp} hs H2 => ?_⟩
      have hd : a.defers = { target := .collected (E.blk m), args := #[] } :: marksOf E ms := hs.defers
      rw [hd]
      have hok : W.heap[E.blk m]? = some (.deferred (some [])) := hs.heap.ok m _ hb
      obtain ⟨q1, q2⟩ := hs.heap.retire hb rfl rfl (.deferred none)
      refine ⟨by simp, .inl ⟨_, _, rfl, run_takeDeferred hok, ?_⟩⟩
      have := H (E := E) (a := { tmps := a.tmps, defers := marksOf E ms }) (W := World.putObj W (E.blk m) (.deferred none)) (Rp := Rp)
        ⟨hs.size, fun i v hi => by
          obtain ⟨x, hx, hr⟩ := hs.slots i v hi
          exact ⟨x, hx, by rw [setB_len]; exact hr⟩, rfl, fun b hb' => by rw [setB_len]; exact hs.scope b (by simp [hb']), q1⟩
        (fun W' hs' ht => H2 W' hs' (q2.trans ht))
      exact this
    · cases hr

theorem evalFn_ok (hC : OracleOk P C) (hm : P.follows .mixedOrders = true) {f : FuncId} {fn : Func} (hf : P.funcs[f]? = some fn) (hL : loopsOk P L) {args : List V} {h : List Blk} {K : V → List Blk → Option R} {r : R}
    (hr : evalFn P C L N me fn args h K = some r) : ∃ v h', K v h' = some r ∧ FnOK P f args h v h' := by
  unfold evalFn at hr
  split at hr
  · rename_i c hc
    obtain ⟨e, s, h1, hsim⟩ := evalCode_ok hC hm hL hr
    have hne : ∀ id, e ≠ .exit id := fun id he => by subst he; simp at h1
    have h1' : takeMarks s.heap s.marks (fun h' => resV P h' s.tmps fn.results.toList (fun l => K (oneRes l) h')) = some r := by
      cases e with
      | normal => exact h1
      | ret => exact h1
      | exit id => exact absurd rfl (hne id)
    obtain ⟨h', hk', HM⟩ := takeMarks_ok (P := P) (fn := fn) (tmps := s.tmps) h1'
    obtain ⟨l, hk, H⟩ := resV_ok hk'
    refine ⟨oneRes l, h', hk, fun E W hh hin => (callsIn_wide (n := 0)).1 (callsIn_of_wp_marks hf hc trivial ?_)⟩
    have hs : StOk E ⟨appV args (undefs (fn.ntmps - args.length)), h, []⟩ { tmps := (concs E args).toArray ++ Array.replicate (fn.ntmps - (concs E args).toArray.size) undef, defers := [] } W := by
      refine ⟨by simp [appV_eq, undefs_eq, concs_eq], fun i v hi => ?_, rfl, fun _ hb => (by cases hb), hh⟩
      simp only [appV_eq, undefs_eq] at hi
      simp only [concs_eq, List.size_toArray, List.length_map, Array.getElem?_append]
      rcases Nat.lt_or_ge i args.length with hlt | hge
      · rw [List.getElem?_append_left hlt] at hi
        have hv := (List.getElem?_eq_some_iff.1 hi).2
        refine ⟨conc E v, by simp [hlt, hv], VR.of (inSs_get hin hi)⟩
      · rw [List.getElem?_append_right hge] at hi
        have hlt := getElem?_lt hi
        simp at hlt
        have : v = undefV := by
          have := List.mem_of_getElem? hi
          exact (List.mem_replicate.1 this).2
        subst this
        refine ⟨undef, ?_, VR.undef⟩
        rw [if_neg (by omega), Array.getElem?_replicate, if_pos hlt]
    refine wpIn_mono (hsim none E _ W hs rfl (Nat.le_refl _)) ?_
    rintro e' a' W' ⟨rfl, E', hs', ht0⟩
    have ht := ht0.full
    have hleave : LeavesInM (fen none) 0 P fn a'.tmps (EndsIn E W h (oneRes l) h') a'.defers .returning W' := by
      refine HM hs' fun W2 hs2 ht2 => ?_
      obtain ⟨h2, h3⟩ := H E' { tmps := a'.tmps, defers := [] } W2 hs2
      have h4 := oneRes_conc E' l W2 fn a'.tmps h3
      have h5 : inS h'.length (oneRes l) = true := by
        unfold oneRes
        split
        · simpa [inSs] using h2
        · simpa [inS] using h2
      exact ⟨_, h4, _, E', rfl, VR.of h5, hs2.heap, ht.trans ht2⟩
    cases e with
    | normal => exact hleave
    | ret => exact hleave
    | exit id => exact absurd rfl (hne id)
  · cases hr

mutual
def plainV : V → Bool
  | .ptr _ _ | .view _ _ _ _ | .aslice _ _ _ _ | .gs _ | .yield _ | .top => false
  | .func _ caps => plainVs caps
  | .agg l => plainVs l
  | .tuple l => plainVs l
  | _ => true
def plainVs : List V → Bool
  | [] => true
  | v :: r => plainV v && plainVs r
end
mutual
theorem plainV_conc {E E' : Env} {n : Nat} : ∀ v, plainV v = true → conc E v = conc E' v ∧ inS n v = true
  | .bool _, _ | .int _ _, _ | .str _, _ | .flat _, _ | .glob _ _, _ => by simp [conc, inS]
  | .ptr _ _, h | .view _ _ _ _, h | .aslice _ _ _ _, h | .gs _, h | .yield _, h | .top, h => by simp [plainV] at h
  | .func f caps, h => by
    simp only [plainV] at h
    obtain ⟨h1, h2⟩ := plainVs_conc (E := E) (E' := E') (n := n) caps h
    exact ⟨by simp only [conc, h1], by simpa [inS] using h2⟩
  | .agg l, h => by
    simp only [plainV] at h
    obtain ⟨h1, h2⟩ := plainVs_conc (E := E) (E' := E') (n := n) l h
    exact ⟨by simp only [conc, h1], by simpa [inS] using h2⟩
  | .tuple l, h => by
    simp only [plainV] at h
    obtain ⟨h1, h2⟩ := plainVs_conc (E := E) (E' := E') (n := n) l h
    exact ⟨by simp only [conc, h1], by simpa [inS] using h2⟩
theorem plainVs_conc {E E' : Env} {n : Nat} : ∀ l, plainVs l = true → concs E l = concs E' l ∧ inSs n l = true
  | [], _ => ⟨rfl, rfl⟩
  | v :: r, h => by
    simp only [plainVs, Bool.and_eq_true] at h
    obtain ⟨h1, h2⟩ := plainV_conc (E := E) (E' := E') (n := n) v h.1
    obtain ⟨h3, h4⟩ := plainVs_conc (E := E) (E' := E') (n := n) r h.2
    exact ⟨by simp only [concs, h1, h3], by simp [inSs, h2, h4]⟩
end

theorem FnOK.pure {f : FuncId} {args : List V} {v : V} {h' : List Blk} (hf : FnOK P f args [] v h') (ha : plainVs args = true) (hv : plainV v = true) (h : List Blk) : FnOK P f args h v h := by
  intro E W hh _
  obtain ⟨e1, e2⟩ := plainVs_conc (E := E) (E' := E) (n := 0) args ha
  refine (hf E W ⟨fun b blk hb => by simp at hb, fun b b' blk blk' hb => by simp at hb⟩ e2).mono ?_
  rintro e W' ⟨x, E', rfl, hx, hh', ht⟩
  have hnm : ∀ k, ¬ Mine E ([] : List Blk) k := fun k ⟨b, blk, hb, _⟩ => by simp at hb
  have hkeep : ∀ k, k < W.heap.size → W'.heap[k]? = W.heap[k]? := fun k hk => ht.frame k hk (hnm k)
  obtain ⟨e3, e4⟩ := plainV_conc (E := E') (E' := E) (n := h.length) v hv
  have hnt : v ≠ .top := fun e => by subst e; simp [plainV] at hv
  refine ⟨x, E, rfl, .inr ⟨e4, by rw [(hx.val hnt).1, e3]⟩, hh.keep (Agree.refl _ _) hkeep, ⟨Agree.refl _ _, Nat.le_refl _, fun k hk => .inl hk, fun k hk _ => hkeep k hk, ht.size, ht.os, ht.tape, ht.output⟩⟩

end
end Go.Eng

/- ENGINE, PART 10: functions that are known by their results alone. -/
namespace Go.Eng
open Go

/-- Results of functions that look at no memory of the caller's. -/
abbrev PTab := FuncId → List V → Option (Bool × V)
def FnPure (P : Program) (f : FuncId) (args : List V) (v : V) : Prop := Enterable P f ∧ ∀ h, FnOK P f args h v h
def PTabOk (P : Program) (T : PTab) : Prop := ∀ f args c v, T f args = some (c, v) → c = true → FnPure P f args v
def oracleOf (T : PTab) : Oracle := fun _ t args _ K => match t with
  | .fn f => match T f args with
    | some (c, v) => cond c (K v [] .none) none
    | none => none
  | .yield _ => none
theorem oracleOf_ok {P : Program} {T : PTab} (hT : PTabOk P T) : OracleOk P (oracleOf T) := by
  intro R t args h K r hr
  unfold oracleOf at hr
  split at hr
  · rename_i f
    split at hr
    · rename_i c v hv
      cases c with
      | false => cases hr
      | true =>
        obtain ⟨h1, h2⟩ := hT f args true v hv rfl
        exact ⟨v, [], .none, hr, fun _ hx => (by cases hx), h1, fun h2' _ => h2 h2', fun _ _ he => (by cases he)⟩
    · cases hr
  · cases hr
def emptyTab : PTab := fun _ _ => none
theorem emptyTab_ok {P : Program} : PTabOk P emptyTab := fun _ _ _ _ h => by cases h
/-- One function more. -/
def addTab (f : FuncId) (g : List V → Option (Bool × V)) (T : PTab) : PTab := fun f' args => cond (Nat.beq f' f) (g args) (T f' args)
theorem addTab_ok {P : Program} {T : PTab} {f : FuncId} {g : List V → Option (Bool × V)} (hg : ∀ args c v, g args = some (c, v) → c = true → FnPure P f args v) (hT : PTabOk P T) : PTabOk P (addTab f g T) := by
  intro f' args c v h hc
  unfold addTab at h
  cases hb : Nat.beq f' f with
  | true =>
    rw [hb] at h
    have := Nat.eq_of_beq_eq_true hb
    subst this
    exact hg args c v h hc
  | false => rw [hb] at h; exact hT f' args c v h hc

def enterB (fn : Func) : Bool := !(fn.name == "runtime.NumGoroutine") && fn.body.isSome
theorem Enterable.of {P : Program} {f : FuncId} {fn : Func} (hf : P.funcs[f]? = some fn) (hb : enterB fn = true) : Enterable P f := by
  unfold enterB at hb
  simp only [Bool.and_eq_true, Bool.not_eq_eq_eq_not, Bool.not_true] at hb
  refine ⟨fn, hf, hb.1, ?_⟩
  cases h : fn.body with
  | none => rw [h] at hb; simp at hb
  | some c => rfl

/-- What the engine has found for a function over plain values. -/
theorem fnPure_of_eval {P : Program} {C : Oracle} {L : Loops} {N : Nat} {f : FuncId} {fn : Func} {args : List V} {v : V} (hC : OracleOk P C) (hm : P.follows .mixedOrders = true) (hf : P.funcs[f]? = some fn) (hb : enterB fn = true)
    (hL : loopsOk P L) (h : evalFn P C L N f fn args [] (fun v _ => some v) = some v) (ha : plainVs args = true) (hv : plainV v = true) : FnPure P f args v := by
  obtain ⟨v', h', hk, hok⟩ := evalFn_ok hC hm hf hL h
  injection hk with hk
  subst hk
  exact ⟨.of hf hb, fun h => hok.pure ha hv h⟩
end Go.Eng

/- ENGINE, PART 11: functions and rounds walked where they are called. -/
namespace Go.Eng
open Go

def setPs : List Tmp → List V → List V → List V
  | p :: ps, x :: xs, tmps => setPs ps xs (setV tmps p x)
  | _, _, tmps => tmps

/-- Functions by their numbers. -/
abbrev FTab := FuncId → Option Func
def FTabOk (P : Program) (F : FTab) : Prop := ∀ f fn, F f = some fn → P.funcs[f]? = some fn

def inl (P : Program) (F : FTab) (T : PTab) (LL : FuncId → Loops) (N : Nat) (pu dom : FuncId → Bool) (pre : Oracle) : Nat → Oracle
  | 0 => oracleOf T
  | d + 1 => fun R t args h K => match t with
    | .fn f => match T f args with
      | some (c, v) => cond c (K v [] .none) none
      | none => match dom f with
       | true => pre R (.fn f) args h K
       | false => match F f with
        | some fn => match enterB fn with
          | true => match pu f && plainVs args with
            | true => evalFn P (inl P F T LL N pu dom pre d) (LL f) N f fn args [] (fun v _ => match plainV v with
              | true => K v [] .none
              | false => none)
            | false => evalFn P (inl P F T LL N pu dom pre d) (LL f) N f fn args h (fun v h' => K v [] (.all h'))
          | false => none
        | none => none
    | .yield b => match getB h b with
      | .loopB .ready me tmps ps assign body _ => match Nat.beq args.length ps.length with
        | true => evalCode P (inl P F T LL N pu dom pre d) (LL me) N h.length (some b) me assign ⟨setPs ps args tmps, h, []⟩ (fun e s => match e with
          | .normal => match getB s.heap b with
            | .loopB .ready m1 t1 p1 a1 c1 d1 => evalCode P (inl P F T LL N pu dom pre d) (LL me) N h.length (some b) me body ⟨s.tmps, setB s.heap b (.loopB .busy m1 t1 p1 a1 c1 d1), s.marks⟩ (fun e s => match getB s.heap b with
              | .loopB .busy m t p x c dd => match e with
                | .normal => K (.bool true) [] (.all (setB s.heap b (.loopB .ready m t p x c dd)))
                | e => K (.bool false) [] (.all (setB s.heap b (.loopB (.done e) m t p x c dd)))
              | _ => none)
            | _ => none
          | _ => none)
        | false => none
      | _ => none

section
variable {P : Program}

/-- A range over a function changes where it stands. -/
theorem Holds.setLoop {E : Env} {h : List Blk} {W : World} (hh : Holds E h W) {b : Nat} {st st' : LSt} {me : FuncId} {tmps : List V} {ps : List Tmp} {assign body : Code} {d : Nat} (hb : h[b]? = some (.loopB st me tmps ps assign body d)) {fn : FuncId} {vs : Array Value}
    (hv : vs.size = tmps.length ∧ ∀ (i : Nat) (v : V), tmps[i]? = some v → ∃ x, vs[i]? = some x ∧ VR E h.length v x) :
    Holds E (setB h b (.loopB st' me tmps ps assign body d)) (World.putObj W (E.blk b) (.loop { state := st'.state, pending := st'.pending, fn, tmps := vs, params := ps.toArray, assign, body, defers := E.blk d })) ∧
    Trans E h W E (setB h b (.loopB st' me tmps ps assign body d)) (World.putObj W (E.blk b) (.loop { state := st'.state, pending := st'.pending, fn, tmps := vs, params := ps.toArray, assign, body, defers := E.blk d })) := by
  obtain ⟨hd, fn0, vs0, _, hc⟩ := hh.ok b _ hb
  refine hh.write (blk' := .loopB st' me tmps ps assign body d) hb rfl rfl rfl rfl ⟨hd, fn, vs, hv, ?_⟩
  exact World.putObj_heap_same (Array.getElem?_eq_some_iff.1 hc).1

theorem setPs_ok {E : Env} {n : Nat} : ∀ {ps : List Tmp} {args : List V} {tmps : List V} {vs : Array Value}, inSs n args = true →
    (vs.size = tmps.length ∧ ∀ (i : Nat) (v : V), tmps[i]? = some v → ∃ x, vs[i]? = some x ∧ VR E n v x) →
    (((ps.zip (concs E args)).foldl (fun (t : Array Value) (x : Tmp × Value) => t.setIfInBounds x.1 x.2) vs).size = (setPs ps args tmps).length ∧
      ∀ (i : Nat) (v : V), (setPs ps args tmps)[i]? = some v → ∃ x, ((ps.zip (concs E args)).foldl (fun (t : Array Value) (x : Tmp × Value) => t.setIfInBounds x.1 x.2) vs)[i]? = some x ∧ VR E n v x)
  | [], args, tmps, vs, _, h => by simpa [setPs] using h
  | p :: ps, [], tmps, vs, _, h => by simpa [setPs, concs] using h
  | p :: ps, v :: args, tmps, vs, hin, h => by
    simp only [inSs, Bool.and_eq_true] at hin
    simp only [setPs, concs, List.zip_cons_cons, List.foldl_cons]
    refine setPs_ok hin.2 ⟨by simp [setV_eq, h.1], fun i u hi => ?_⟩
    rw [setV_eq] at hi
    by_cases hp : p = i
    · subst hp
      rcases Nat.lt_or_ge p tmps.length with hlt | hge
      · rw [List.getElem?_set_self hlt] at hi
        injection hi with hi; subst hi
        exact ⟨conc E v, by rw [Array.getElem?_setIfInBounds_self_of_lt (by rw [h.1]; exact hlt)], VR.of hin.1⟩
      · rw [List.getElem?_eq_none (by simpa using hge)] at hi; cases hi
    · rw [List.getElem?_set_ne hp] at hi
      obtain ⟨y, hy, hr⟩ := h.2 i u hi
      exact ⟨y, by rw [Array.getElem?_setIfInBounds_ne hp]; exact hy, hr⟩

theorem concs_length (E : Env) (l : List V) : (concs E l).length = l.length := by rw [concs_eq, List.length_map]

theorem inl_ok {F : FTab} {T : PTab} {LL : FuncId → Loops} {N : Nat} {pu dom : FuncId → Bool} {pre : Oracle} (hP : OracleOk P pre) (hF : FTabOk P F) (hT : PTabOk P T) (hL : ∀ f, loopsOk P (LL f)) (hm : P.follows .mixedOrders = true) : ∀ d, OracleOk P (inl P F T LL N pu dom pre d)
  | 0 => oracleOf_ok hT
  | d + 1 => by
    have ih := inl_ok (N := N) (pu := pu) (dom := dom) hP hF hT hL hm d
    intro R t args h K r hr
    unfold inl at hr
    split at hr
    · rename_i f
      split at hr
      · rename_i c v hv
        cases c with
        | false => cases hr
        | true =>
          obtain ⟨h1, h2⟩ := hT f args true v hv rfl
          exact ⟨v, [], .none, hr, fun _ hx => (by cases hx), h1, fun h2' _ => h2 h2', fun _ _ he => (by cases he)⟩
      · split at hr
        · exact hP R (.fn f) args h K r hr
        split at hr
        · rename_i fn hfn
          split at hr
          · rename_i hen
            split at hr
            · rename_i hpl
              simp only [Bool.and_eq_true] at hpl
              obtain ⟨v, h', hk, hok⟩ := evalFn_ok ih hm (hF f fn hfn) (hL f) hr
              split at hk
              · rename_i hpv
                exact ⟨v, [], .none, hk, fun _ hx => (by cases hx), .of (hF f fn hfn) hen, fun h2 _ => hok.pure hpl.2 hpv h2, fun _ _ he => (by cases he)⟩
              · cases hk
            · obtain ⟨v, h', hk, hok⟩ := evalFn_ok ih hm (hF f fn hfn) (hL f) hr
              exact ⟨v, [], .all h', hk, rfl, .of (hF f fn hfn) hen, fun h2 hs => (by rw [show h2 = h from hs]; exact hok), fun _ _ he => (by cases he)⟩
          · cases hr
        · cases hr
    · rename_i b
      split at hr
      · rename_i me tmps ps assign body dd hb
        have hb := getB_some hb (by simp)
        split at hr
        · rename_i hlen
          have hlen := Nat.eq_of_beq_eq_true hlen
          obtain ⟨e1, s1, hk1, hsim1⟩ := evalCode_ok ih hm (hL me) hr
          cases e1 with
          | exit id => cases hk1
          | ret => cases hk1
          | normal =>
            simp only at hk1
            split at hk1
            · rename_i m1 t1 p1 a1 c1 d1 hb1
              have hb1 := getB_some hb1 (by simp)
              obtain ⟨e2, s2, hk2, hsim2⟩ := evalCode_ok ih hm (hL me) hk1
              split at hk2
              · rename_i m2 t2 p2 a2 c2 d2 hb2
                have hb2 := getB_some hb2 (by simp)
                -- what is claimed, whatever way the body was left
                have main : ∀ (st : LSt) (v : Bool), ((e2 = .normal ∧ st = .ready ∧ v = true) ∨ (e2 ≠ .normal ∧ st = .done e2 ∧ v = false)) → RoundOK P b args h (.bool v) (setB s2.heap b (.loopB st m2 t2 p2 a2 c2 d2)) := by
                  intro st v hcase E W hh hin hlt
                  obtain ⟨hd0, fn0, vs0, hvs0, hc0⟩ := hh.ok b _ hb
                  have hrdy : LSt.ready.state = .ready := rfl
                  have hy := run_yield (P := P) (args := (concs E args).toArray) hc0 (by simp [concs_length, hlen])
                  refine ⟨_, _, _, _, hy, roundIn_of_wpIn trivial ?_⟩
                  have hset := setPs_ok (E := E) (ps := ps) (args := args) hin hvs0
                  have hs0 : StOk E ⟨setPs ps args tmps, h, []⟩ { tmps := (ps.toArray.zip (concs E args).toArray).foldl (fun tmps (x : Tmp × Value) => tmps.setIfInBounds x.1 x.2) vs0, defers := [] } W := by
                    have e0 : (ps.toArray.zip (concs E args).toArray).foldl (fun (tmps : Array Value) (x : Tmp × Value) => tmps.setIfInBounds x.1 x.2) vs0 = (ps.zip (concs E args)).foldl (fun (t : Array Value) (x : Tmp × Value) => t.setIfInBounds x.1 x.2) vs0 := by simp
                    exact ⟨by rw [e0]; exact hset.1, by rw [e0]; exact hset.2, rfl, fun _ hb => (by cases hb), hh⟩
                  have hrd0 : RdOk E h.length (some (E.blk b)) (some b) := ⟨hlt, rfl⟩
                  refine wpIn_mono (hsim1 (some (E.blk b)) E _ W hs0 hrd0 (Nat.le_refl _)) ?_
                  rintro e' a1' W1 ⟨rfl, E1, hs1, htn1⟩
                  have ht1 := htn1.full
                  have hrd1 := hrd0.agree ht1.agree (Nat.le_refl _)
                  have hblk1 : E1.blk b = E.blk b := ht1.agree.blk b hlt
                  obtain ⟨hd1, fn1, vs1, hvs1, hc1⟩ := hs1.heap.ok b _ hb1
                  obtain ⟨q1, q2⟩ := hs1.heap.setLoop (st' := .busy) hb1 (fn := fn1) hvs1
                  have hbr : (Instr.beginRound (E.blk b)).run P W1 = .ok () (World.putObj W1 (E1.blk b) (.loop { state := LSt.busy.state, pending := LSt.busy.pending, fn := fn1, tmps := vs1, params := p1.toArray, assign := a1, body := c1, defers := E1.blk d1 })) := by
                    have := run_beginRound (P := P) hc1 rfl
                    rw [hblk1] at this ⊢
                    exact this
                  refine ⟨_, hbr, ?_⟩
                  have hs1' : StOk E1 ⟨s1.tmps, setB s1.heap b (.loopB .busy m1 t1 p1 a1 c1 d1), s1.marks⟩ a1' _ :=
                    ⟨hs1.size, fun i v hi => by
                      obtain ⟨x, hx, hr⟩ := hs1.slots i v hi
                      exact ⟨x, hx, by rw [setB_len]; exact hr⟩, hs1.defers, fun x hx => by rw [setB_len]; exact hs1.scope x hx, q1⟩
                  refine wpIn_mono (hsim2 (some (E.blk b)) E1 a1' _ hs1' hrd1 (by rw [setB_len]; exact ht1.len)) ?_
                  rintro e' a2' W2 ⟨rfl, E2, hs2, ht2⟩
                  have hlt1 : b < h.length := hrd1.1
                  have hblk2 : E2.blk b = E.blk b := by rw [ht2.agree.blk b hlt1, hblk1]
                  obtain ⟨hd2, fn2, vs2, hvs2, hc2⟩ := hs2.heap.ok b _ hb2
                  have fin : ∀ jump, st.pending = jump → v = jump.isNone → st.state = (if jump.isNone then .ready else .done) →
                      ∃ v' w', (Instr.endRound (E.blk b) jump).run P W2 = .ok v' w' ∧ EndsIn E W h (.bool v) (setB s2.heap b (.loopB st m2 t2 p2 a2 c2 d2)) (.returned v') w' := by
                    intro jump hj hv hst
                    obtain ⟨q3, q4⟩ := hs2.heap.setLoop (st' := st) hb2 (fn := fn2) hvs2
                    have hend := run_endRound (P := P) jump hc2
                    rw [hblk2] at hend
                    rw [hblk2, hj, hst] at q3 q4
                    refine ⟨_, _, hend, _, E2, rfl, ?_, q3, (((htn1.trans (q2.to ht1.len)).trans ht2).trans (q4.to ht2.len)).full⟩
                    rw [hv]; exact VR.mkBool
                  cases e2 with
                  | normal =>
                    rcases hcase with ⟨_, rfl, rfl⟩ | ⟨hne, _⟩
                    · exact fin none rfl rfl rfl
                    · exact absurd rfl hne
                  | exit id =>
                    rcases hcase with ⟨he, _⟩ | ⟨_, rfl, rfl⟩
                    · cases he
                    · exact fin (some (.exit id)) rfl rfl rfl
                  | ret =>
                    rcases hcase with ⟨he, _⟩ | ⟨_, rfl, rfl⟩
                    · cases he
                    · exact fin (some .ret) rfl rfl rfl
                split at hk2
                · exact ⟨_, _, _, hk2, rfl, trivial, fun h2 hs => (by rw [show h2 = h from hs]; exact main .ready true (.inl ⟨rfl, rfl, rfl⟩)), fun _ _ he => (by cases he)⟩
                · rename_i hne
                  exact ⟨_, _, _, hk2, rfl, trivial, fun h2 hs => (by rw [show h2 = h from hs]; exact main (.done e2) false (.inr ⟨fun h => hne h, rfl, rfl⟩)), fun _ _ he => (by cases he)⟩
              · cases hk2
            · cases hk1
        · cases hr
      · cases hr
end
end Go.Eng

/- ENGINE, PART 11b: other names for blocks. -/
namespace Go.Eng
open Go

mutual
def renV (ρ : Nat → Nat) : V → V
  | .ptr b off => .ptr (ρ b) off
  | .view b l sz len => .view (ρ b) l sz len
  | .aslice b off len cap => .aslice (ρ b) off len cap
  | .gs b => .gs (ρ b)
  | .yield b => .yield (ρ b)
  | .func f l => .func f (renVs ρ l)
  | .agg l => .agg (renVs ρ l)
  | .tuple l => .tuple (renVs ρ l)
  | v => v
def renVs (ρ : Nat → Nat) : List V → List V
  | [] => []
  | v :: r => renV ρ v :: renVs ρ r
end
def Env.ren (E : Env) (ρ : Nat → Nat) : Env := { blk := fun b => E.blk (ρ b), delta := fun b => E.delta (ρ b), len := fun b => E.len (ρ b), cap := fun b => E.cap (ρ b), isnil := fun b => E.isnil (ρ b), base := fun b => E.base (ρ b) }
mutual
theorem conc_ren (E : Env) (ρ : Nat → Nat) : ∀ v, conc (E.ren ρ) v = conc E (renV ρ v)
  | .bool _ | .int _ _ | .str _ | .flat _ | .glob _ _ | .top => by simp [conc, renV]
  | .ptr b off => rfl
  | .view b l sz len => rfl
  | .aslice b off len cap => rfl
  | .gs b => rfl
  | .yield b => rfl
  | .func f l => by simp only [conc, renV, concs_ren E ρ l]
  | .agg l => by simp only [conc, renV, concs_ren E ρ l]
  | .tuple l => by simp only [conc, renV, concs_ren E ρ l]
theorem concs_ren (E : Env) (ρ : Nat → Nat) : ∀ l, concs (E.ren ρ) l = concs E (renVs ρ l)
  | [] => rfl
  | v :: r => by simp only [concs, renVs, conc_ren E ρ v, concs_ren E ρ r]
end
theorem Agree.ren {n : Nat} {E : Env} {ρ : Nat → Nat} (h : ∀ b, b < n → ρ b = b) : Agree n E (E.ren ρ) :=
  ⟨fun b hb => by simp [Env.ren, h b hb], fun b hb => by simp [Env.ren, h b hb], fun b hb => by simp [Env.ren, h b hb], fun b hb => by simp [Env.ren, h b hb], fun b hb => by simp [Env.ren, h b hb], fun b hb => by simp [Env.ren, h b hb]⟩
end Go.Eng

/- ENGINE, PART 12: less may be known of a state. -/
namespace Go.Eng
open Go

def rowIn (n : Nat) : Row → Bool
  | .vs l => inSs n l
  | _ => true
theorem rowIn_ok {n : Nat} {row : Row} (h : rowIn n row = true) : inSs n row.toVs = true := by
  cases row with
  | vs l => exact h
  | ints k l => rw [inSs_eq, List.all_eq_true]; intro v hv; obtain ⟨z, _, rfl⟩ := List.mem_map.1 hv; rfl
  | strs l => rw [inSs_eq, List.all_eq_true]; intro v hv; obtain ⟨z, _, rfl⟩ := List.mem_map.1 hv; rfl
def slotIn (n : Nat) : V → Bool
  | .top => true
  | v => inS n v
theorem slotIn_ok {n m : Nat} {E : Env} {v : V} {x : Value} (h : slotIn n v = true) (hv : VR E m v x) : VR E n v x := by
  rcases hv with rfl | ⟨_, h2⟩
  · exact .inl rfl
  · by_cases ht : v = .top
    · exact .inl ht
    · refine .inr ⟨?_, h2⟩
      cases v <;> first | exact h | exact absurd rfl ht
def slotsIn (n : Nat) : List V → Bool
  | [] => true
  | v :: r => slotIn n v && slotsIn n r
theorem slotsIn_get {n : Nat} : ∀ {l : List V} {i : Nat} {v : V}, slotsIn n l = true → l[i]? = some v → slotIn n v = true
  | [], i, v, _, h => by simp at h
  | u :: r, 0, v, hs, h => by
    simp only [slotsIn, Bool.and_eq_true] at hs
    simp only [List.getElem?_cons_zero, Option.some.injEq] at h
    subst h; exact hs.1
  | u :: r, i + 1, v, hs, h => by
    simp only [slotsIn, Bool.and_eq_true] at hs
    simp only [List.getElem?_cons_succ] at h
    exact slotsIn_get hs.2 h
def blkIn (n : Nat) : Blk → Bool
  | .dead | .defs | .raw .. => true
  | .ro r | .glob _ r | .rs _ _ r | .own _ r | .grow _ _ _ r => rowIn n r
  | .loopB _ _ tmps _ _ _ d => slotsIn n tmps && Nat.blt d n
  | .lent b0 n0 _ _ _ r => Nat.blt b0 n && (Nat.blt n0 n && rowIn n r)

def renR (ρ : Nat → Nat) : Row → Row
  | .vs l => .vs (renVs ρ l)
  | r => r
theorem renR_vs (E : Env) (ρ : Nat → Nat) (r : Row) : concs (E.ren ρ) r.toVs = concs E (renR ρ r).toVs := by
  cases r with
  | vs l => exact concs_ren E ρ l
  | ints k l => simp only [renR, Row.toVs, concs_eq, List.map_map]; rfl
  | strs l => simp only [renR, Row.toVs, concs_eq, List.map_map]; rfl
theorem renR_len (ρ : Nat → Nat) (r : Row) : (renR ρ r).len = r.len := by
  cases r with
  | vs l =>
    simp only [renR, Row.len]
    induction l with
    | nil => rfl
    | cons v q ih => simp only [renVs, List.length_cons, ih]
  | _ => rfl
/-- The second block, its names read by ρ, says no more than the first one. -/
inductive BlkW (ρ : Nat → Nat) (n : Nat) : Blk → Blk → Prop
  | dead (b : Blk) : BlkW ρ n b .dead
  | defs : BlkW ρ n .defs .defs
  | ro (r : Row) : rowIn n r = true → BlkW ρ n (.ro (renR ρ r)) (.ro r)
  | glob (g : Nat) (r : Row) : rowIn n r = true → BlkW ρ n (.glob g (renR ρ r)) (.glob g r)
  | rs (nn : Bool) (sz : Nat) (r : Row) : rowIn n r = true → BlkW ρ n (.rs nn sz (renR ρ r)) (.rs nn sz r)
  | own (ty : TypeId) (r : Row) : rowIn n r = true → BlkW ρ n (.own ty (renR ρ r)) (.own ty r)
  | raw (ty : TypeId) (sz m : Nat) : BlkW ρ n (.raw ty sz m) (.raw ty sz m)
  | grow (nn nn' : Bool) (ty : TypeId) (sz : Nat) (r : Row) : rowIn n r = true → (nn' = true → nn = true) → BlkW ρ n (.grow nn ty sz (renR ρ r)) (.grow nn' ty sz r)
  | lent (b0 n0 : Nat) (nn : Bool) (ty : TypeId) (sz : Nat) (r : Row) : b0 < n → n0 < n → rowIn n r = true → BlkW ρ n (.lent (ρ b0) (ρ n0) nn ty sz (renR ρ r)) (.lent b0 n0 nn ty sz r)
  | loopB (st : LSt) (me : FuncId) (old tmps : List V) (ps : List Tmp) (assign body : Code) (d : Nat) : slotsIn n tmps = true → d < n → tmps.length = old.length → (∀ (i : Nat) v, tmps[i]? = some v → v = .top ∨ old[i]? = some (renV ρ v)) →
      BlkW ρ n (.loopB st me old ps assign body (ρ d)) (.loopB st me tmps ps assign body d)

/-- The second state says no more than the first one; its blocks have other names from n0 on. -/
structure Sub (n0 : Nat) (ρ : Nat → Nat) (s s2 : AS) : Prop where
  same : ∀ b, b < n0 → ρ b = b
  inj : ∀ b b', b < s2.heap.length → b' < s2.heap.length → ρ b = ρ b' → b = b'
  tlen : s2.tmps.length = s.tmps.length
  tmps : ∀ (i : Nat) v, s2.tmps[i]? = some v → v = .top ∨ (s.tmps[i]? = some (renV ρ v) ∧ inS s2.heap.length v = true)
  heap : ∀ (b : Nat) blk2, s2.heap[b]? = some blk2 → ∃ blk, s.heap[ρ b]? = some blk ∧ BlkW ρ s2.heap.length blk blk2
  marks : s2.marks.map ρ = s.marks
  scope : ∀ b ∈ s2.marks, b < s2.heap.length
  base : n0 ≤ s2.heap.length

theorem renVs_eq (ρ : Nat → Nat) (l : List V) : renVs ρ l = l.map (renV ρ) := by
  induction l with
  | nil => rfl
  | cons v r ih => simp [renVs, ih]
theorem renR_get {ρ : Nat → Nat} {r : Row} {i : Nat} {v : V} (h : r.toVs[i]? = some v) : (renR ρ r).toVs[i]? = some (renV ρ v) := by
  cases r with
  | vs l => simp only [renR, Row.toVs, renVs_eq, List.getElem?_map] at h ⊢; rw [h]; rfl
  | ints k l =>
    simp only [renR, Row.toVs, List.getElem?_map] at h ⊢
    cases hl : l[i]? with
    | none => rw [hl] at h; cases h
    | some z => rw [hl] at h; cases h; rfl
  | strs l =>
    simp only [renR, Row.toVs, List.getElem?_map] at h ⊢
    cases hl : l[i]? with
    | none => rw [hl] at h; cases h
    | some z => rw [hl] at h; cases h; rfl
theorem BlkOk.weak {E : Env} {ρ : Nat → Nat} {n m : Nat} {W : World} {b : Nat} {blk blk2 : Blk} (hk : BlkOk E n W (ρ b) blk) (hw : BlkW ρ m blk blk2) : BlkOk (E.ren ρ) m W b blk2 := by
  cases hw with
  | dead => trivial
  | defs => exact hk
  | ro r h => exact ⟨rowIn_ok h, fun i v hi => by rw [conc_ren]; exact hk.2 i _ (renR_get hi)⟩
  | glob g r h => exact ⟨hk.1, hk.2.1, rowIn_ok h, fun i v hi => by rw [conc_ren]; exact hk.2.2.2 i _ (renR_get hi)⟩
  | rs nn sz r h =>
    obtain ⟨_, h2, h3, h4, h5, h6⟩ := hk
    rw [renR_len] at h3 h5
    exact ⟨rowIn_ok h, h2, h3, h4, h5, fun hn i v hi => by rw [conc_ren]; exact h6 hn i _ (renR_get hi)⟩
  | own ty r h =>
    obtain ⟨h1, _, fz, h3, h4⟩ := hk
    rw [renR_len] at h3
    exact ⟨h1, rowIn_ok h, fz, h3, by rw [renR_vs]; exact h4⟩
  | raw ty sz m => exact hk
  | lent b0 n0 nn ty sz r hb hn h =>
    obtain ⟨_, _, _, h1, h2, h3, h4, h5, h6, h7⟩ := hk
    rw [renR_len] at h3 h5
    refine ⟨hb, hn, rowIn_ok h, h1, h2, h3, h4, h5, h6, fun hq => ?_⟩
    obtain ⟨fz, spare, k1, k2, k3⟩ := h7 hq
    rw [renR_len] at k1 k2
    exact ⟨fz, spare, k1, k2, by rw [renR_vs]; exact k3⟩
  | grow nn nn' ty sz r h hnn =>
    obtain ⟨h1, _, h3, h4, h5, h6, h7⟩ := hk
    rw [renR_len] at h4 h6
    refine ⟨h1, rowIn_ok h, h3, h4, h5, fun hn => ⟨(h6 hn).1, ?_⟩, fun hn => ?_⟩
    · cases nn' with
      | false => rfl
      | true => have := (h6 hn).2; rw [hnn rfl] at this; cases this
    · obtain ⟨fz, spare, k1, k2, k3⟩ := h7 hn
      rw [renR_len] at k1 k2
      exact ⟨fz, spare, k1, k2, by rw [renR_vs]; exact k3⟩
  | loopB st me old tmps ps assign body d h hd hl hw =>
    obtain ⟨_, fn, vs, ⟨h1, h2⟩, hc⟩ := hk
    refine ⟨hd, fn, vs, ⟨by rw [h1, hl], fun i v hi => ?_⟩, hc⟩
    by_cases ht : v = .top
    · subst ht
      have hlt : i < vs.size := by rw [h1, ← hl]; exact getElem?_lt hi
      exact ⟨vs[i], Array.getElem?_eq_getElem hlt, .inl rfl⟩
    · obtain ⟨x, hx, hr⟩ := h2 i (renV ρ v) ((hw i v hi).resolve_left ht)
      refine ⟨x, hx, .inr ⟨?_, ?_⟩⟩
      · have := slotsIn_get h hi
        cases v <;> first | exact this | exact absurd rfl ht
      · rw [conc_ren]
        exact (hr.val (by cases v <;> simp_all [renV])).1

theorem renR_empty (ρ : Nat → Nat) (r : Row) : (renR ρ r).toVs.isEmpty = r.toVs.isEmpty := by
  have := renR_len ρ r
  rw [Row.len_eq, Row.len_eq] at this
  cases h1 : (renR ρ r).toVs <;> cases h2 : r.toVs <;> simp_all
theorem BlkW.mine {ρ : Nat → Nat} {n : Nat} {blk blk2 : Blk} (hw : BlkW ρ n blk blk2) {E : Env} {b : Nat} (hl : liveAt (E.ren ρ) b blk2 = true) : liveAt E (ρ b) blk = true ∧ (blk2.mine = true → blk.mine = true) := by
  cases hw with
  | dead => simp [liveAt] at hl
  | defs => exact ⟨hl, id⟩
  | ro r => exact ⟨by simp only [liveAt, renR_empty] at hl ⊢; exact hl, id⟩
  | glob g r => exact ⟨by simp only [liveAt, renR_empty] at hl ⊢; exact hl, id⟩
  | rs nn sz r => exact ⟨by simp only [liveAt, renR_empty] at hl ⊢; exact hl, id⟩
  | own ty r => exact ⟨rfl, id⟩
  | raw ty sz m => exact ⟨rfl, id⟩
  | lent => exact ⟨hl, id⟩
  | grow nn nn' ty sz r => exact ⟨hl, id⟩
  | loopB => exact ⟨rfl, id⟩
theorem Sub.holds {n0 : Nat} {ρ : Nat → Nat} {s s2 : AS} (hs : Sub n0 ρ s s2) {E : Env} {W : World} (hh : Holds E s.heap W) : Holds (E.ren ρ) s2.heap W := by
  refine ⟨fun b blk2 hb => ?_, fun b b' x x' hb hb' hm hl hl' he => ?_⟩
  · obtain ⟨blk, h1, h3⟩ := hs.heap b blk2 hb
    exact (hh.ok _ blk h1).weak h3
  · obtain ⟨y, h1, h3⟩ := hs.heap b x hb
    obtain ⟨y', h1', h3'⟩ := hs.heap b' x' hb'
    obtain ⟨q1, q2⟩ := h3.mine hl
    exact hs.inj b b' (getElem?_lt hb) (getElem?_lt hb') (hh.inj _ _ y y' h1 h1' (q2 hm) q1 (h3'.mine hl').1 he)
theorem Sub.mine {n0 : Nat} {ρ : Nat → Nat} {s s2 : AS} (hs : Sub n0 ρ s s2) {E : Env} {k : Nat} (hm : Mine (E.ren ρ) s2.heap k) : Mine E s.heap k := by
  obtain ⟨b, x, hb, h1, h2', h3⟩ := hm
  obtain ⟨y, hy, hw'⟩ := hs.heap b x hb
  obtain ⟨q1, q2⟩ := hw'.mine h2'
  exact ⟨ρ b, y, hy, q2 h1, q1, h3⟩
theorem marks_ren {E : Env} {ρ : Nat → Nat} : ∀ l : List Nat, marksOf (E.ren ρ) l = marksOf E (l.map ρ)
  | [] => rfl
  | b :: r => by simp only [marksOf, List.map_cons, marks_ren r]; rfl
theorem StOk.weak {n0 : Nat} {ρ : Nat → Nat} {E : Env} {s s2 : AS} {a : Act} {W : World} (h : StOk E s a W) (hs : Sub n0 ρ s s2) : StOk (E.ren ρ) s2 a W := by
  refine ⟨by rw [hs.tlen]; exact h.size, fun i v hi => ?_, by rw [marks_ren, hs.marks]; exact h.defers, hs.scope, hs.holds h.heap⟩
  rcases hs.tmps i v hi with rfl | ⟨h1, h2⟩
  · have hlt := getElem?_lt hi
    rw [hs.tlen, ← h.size] at hlt
    exact ⟨a.tmps[i], Array.getElem?_eq_getElem hlt, .inl rfl⟩
  · obtain ⟨x, hx, hr⟩ := h.slots i _ h1
    refine ⟨x, hx, ?_⟩
    by_cases ht : v = .top
    · exact .inl ht
    · exact .inr ⟨h2, by rw [conc_ren]; exact (hr.val (by cases v <;> simp_all [renV])).1⟩
theorem TransN.weak {n0 : Nat} {ρ : Nat → Nat} {E0 E : Env} {h0 : List Blk} {W0 W : World} {s s2 : AS} (t : TransN n0 E0 h0 W0 E s.heap W) (hs : Sub n0 ρ s s2) : TransN n0 E0 h0 W0 (E.ren ρ) s2.heap W :=
  ⟨t.agree.trans (Agree.ren hs.same) (Nat.le_refl _), hs.base, fun k hk => t.mine k (hs.mine hk), t.frame, t.size, t.os, t.tape, t.output⟩
theorem TransN.pre {n0 : Nat} {ρ : Nat → Nat} {E E' : Env} {h' : List Blk} {W W' : World} {s s2 : AS} (hs : Sub n0 ρ s s2) (t : TransN n0 (E.ren ρ) s2.heap W E' h' W') : TransN n0 E s.heap W E' h' W' :=
  ⟨(Agree.ren hs.same).trans t.agree (Nat.le_refl _), t.len, fun k hk => (t.mine k hk).imp hs.mine id, fun k hk hn => t.frame k hk (fun hm => hn (hs.mine hm)), t.size, t.os, t.tape, t.output⟩
theorem SimC.post {P : Program} {n0 : Nat} {rd : Option Nat} {c : Code} {s s1 s2 : AS} {e : XE} {ρ : Nat → Nat} (h : SimC P n0 rd c s e s1) (hs : Sub n0 ρ s1 s2) : SimC P n0 rd c s e s2 := fun ro E a W hst hro hn =>
  wpIn_mono (h ro E a W hst hro hn) (by
    rintro e' a' W' ⟨rfl, E', h1, h2⟩
    exact ⟨rfl, _, h1.weak hs, h2.weak hs⟩)
theorem SimC.pre {P : Program} {n0 : Nat} {rd : Option Nat} {c : Code} {s s2 s' : AS} {e : XE} {ρ : Nat → Nat} (hs : Sub n0 ρ s s2) (h : SimC P n0 rd c s2 e s') : SimC P n0 rd c s e s' := fun ro E a W hst hro _ =>
  wpIn_mono (h ro _ a W (hst.weak hs) (hro.agree (Agree.ren hs.same) (Nat.le_refl _)) hs.base) (by
    rintro e' a' W' ⟨rfl, E', h1, h2⟩
    exact ⟨rfl, E', h1, TransN.pre hs h2⟩)

/-- A loop that is left within n rounds. -/
def SimL (P : Program) (n0 : Nat) (rd : Option Nat) (c : Code) (n : Nat) (s : AS) (e : XE) (s' : AS) : Prop :=
  ∀ ro E a W, StOk E s a W → RdOk E n0 ro rd → n0 ≤ s.heap.length → ∀ Q : Exit → Act → World → Prop, (∀ E' a' W', StOk E' s' a' W' → TransN n0 E s.heap W E' s'.heap W' → Q e.toExit a' W') → Code.roundsIn (fen ro) 0 P c Q n a W
theorem SimL.loop {P : Program} {n0 : Nat} {rd : Option Nat} {c : Code} {n : Nat} {s s' : AS} {e : XE} (h : SimL P n0 rd c n s e s') : SimC P n0 rd (.loop c) s e s' := fun ro E a W hst hro hn =>
  wpIn_loop_rounds n (h ro E a W hst hro hn _ fun E' _ _ h1 h2 => ⟨rfl, E', h1, h2⟩)
theorem SimC.leave {P : Program} {n0 : Nat} {rd : Option Nat} {c : Code} {s s' : AS} {e : XE} (h : SimC P n0 rd c s e s') (he : e ≠ .normal) : SimL P n0 rd c 1 s e s' := fun ro E a W hst hro hn Q hQ => by
  rw [roundsIn_succ]
  refine wpIn_mono (h ro E a W hst hro hn) ?_
  rintro e' a' W' ⟨rfl, E', h1, h2⟩
  cases e with
  | normal => exact absurd rfl he
  | exit id => exact hQ E' a' W' h1 h2
  | ret => exact hQ E' a' W' h1 h2
theorem SimC.step {P : Program} {n0 : Nat} {rd : Option Nat} {c : Code} {n : Nat} {s s1 s' : AS} {e : XE} (h : SimC P n0 rd c s .normal s1) (h1 : SimL P n0 rd c n s1 e s') : SimL P n0 rd c (n + 1) s e s' := fun ro E a W hst hro hn Q hQ => by
  rw [roundsIn_succ]
  refine wpIn_mono (h ro E a W hst hro hn) ?_
  rintro e' a' W' ⟨rfl, E', h2, h3⟩
  exact h1 ro E' a' W' h2 (hro.agree h3.agree (Nat.le_refl _)) h3.len Q fun E'' a'' W'' h4 h5 => hQ E'' a'' W'' h4 (h3.trans h5)

/-- A loop over a family of states, with a measure. Each round from a state of the family leads to one of a smaller measure with the same end, or it leaves the loop as is claimed. -/
theorem loop_ind {P : Program} {n0 : Nat} {rd : Option Nat} {c : Code} {X : Type} (S : X → AS) (inv : X → Prop) (μ : X → Nat) (fin : X → XE × AS)
    (round : ∀ x, inv x → ∃ e s1, SimC P n0 rd c (S x) e s1 ∧
      ((e = .normal ∧ ∃ y ρ, Sub n0 ρ s1 (S y) ∧ inv y ∧ μ y < μ x ∧ fin y = fin x) ∨ (e ≠ .normal ∧ e = (fin x).1 ∧ ∃ ρ, Sub n0 ρ s1 (fin x).2))) :
    ∀ x, inv x → SimC P n0 rd (.loop c) (S x) (fin x).1 (fin x).2 := by
  have key : ∀ m x, μ x = m → inv x → ∃ n, SimL P n0 rd c n (S x) (fin x).1 (fin x).2 := by
    intro m
    induction m using Nat.strongRecOn with
    | _ m ih =>
      intro x hm hx
      obtain ⟨e, s1, h, hc⟩ := round x hx
      rcases hc with ⟨rfl, y, ρ, hs, hy, hlt, hf⟩ | ⟨hne, rfl, ρ, hs⟩
      · obtain ⟨n, hn⟩ := ih (μ y) (hm ▸ hlt) y rfl hy
        rw [hf] at hn
        exact ⟨n + 1, (h.post hs).step hn⟩
      · exact ⟨1, (h.post hs).leave hne⟩
  intro x hx
  obtain ⟨n, hn⟩ := key _ x rfl hx
  exact hn.loop
end Go.Eng

/- ENGINE, PART 12b: a state read through other names; what a template finds there. -/
namespace Go.Eng
open Go

/-- The second block says no more than the first one; the names are the same. -/
inductive BlkI (n : Nat) : Blk → Blk → Prop
  | dead (b : Blk) : BlkI n b .dead
  | same (b : Blk) : blkIn n b = true → BlkI n b b
  | nil (ty : TypeId) (sz : Nat) (row : Row) : rowIn n row = true → BlkI n (.grow true ty sz row) (.grow false ty sz row)
  | less (st : LSt) (me : FuncId) (old tmps : List V) (ps : List Tmp) (assign body : Code) (d : Nat) : slotsIn n tmps = true → d < n → tmps.length = old.length → (∀ (i : Nat) v, tmps[i]? = some v → v = .top ∨ old[i]? = some v) →
      BlkI n (.loopB st me old ps assign body d) (.loopB st me tmps ps assign body d)
structure SubI (s s2 : AS) : Prop where
  tlen : s2.tmps.length = s.tmps.length
  tmps : ∀ (i : Nat) v, s2.tmps[i]? = some v → v = .top ∨ (s.tmps[i]? = some v ∧ inS s2.heap.length v = true)
  hlen : s2.heap.length ≤ s.heap.length
  heap : ∀ (b : Nat) blk2, s2.heap[b]? = some blk2 → ∃ blk, s.heap[b]? = some blk ∧ BlkI s2.heap.length blk blk2
  marks : s2.marks = s.marks
  scope : ∀ b ∈ s2.marks, b < s2.heap.length

def renB (σ : Nat → Nat) : Blk → Blk
  | .dead => .dead
  | .defs => .defs
  | .ro r => .ro (renR σ r)
  | .glob g r => .glob g (renR σ r)
  | .rs nn sz r => .rs nn sz (renR σ r)
  | .own ty r => .own ty (renR σ r)
  | .grow nn ty sz r => .grow nn ty sz (renR σ r)
  | .loopB st me tmps ps assign body d => .loopB st me (renVs σ tmps) ps assign body (σ d)
  | .lent b0 n0 nn ty sz r => .lent (σ b0) (σ n0) nn ty sz (renR σ r)
  | .raw ty sz m => .raw ty sz m
section
variable {σ ρ : Nat → Nat} {n : Nat}
mutual
theorem ren_back (hσ : ∀ b, σ b < n → ρ (σ b) = b) : ∀ v, inS n (renV σ v) = true → renV ρ (renV σ v) = v
  | .bool _, _ | .int _ _, _ | .str _, _ | .flat _, _ | .glob _ _, _ => rfl
  | .top, h => by simp [renV, inS] at h
  | .ptr b off, h => by simp only [renV, inS, Nat.blt_eq] at h ⊢; rw [hσ b h]
  | .view b l sz len, h => by simp only [renV, inS, Nat.blt_eq] at h ⊢; rw [hσ b h]
  | .aslice b off len cap, h => by simp only [renV, inS, Nat.blt_eq] at h ⊢; rw [hσ b h]
  | .gs b, h => by simp only [renV, inS, Nat.blt_eq] at h ⊢; rw [hσ b h]
  | .yield b, h => by simp only [renV, inS, Nat.blt_eq] at h ⊢; rw [hσ b h]
  | .func f l, h => by simp only [renV, inS] at h ⊢; rw [rens_back hσ l h]
  | .agg l, h => by simp only [renV, inS] at h ⊢; rw [rens_back hσ l h]
  | .tuple l, h => by simp only [renV, inS] at h ⊢; rw [rens_back hσ l h]
theorem rens_back (hσ : ∀ b, σ b < n → ρ (σ b) = b) : ∀ l, inSs n (renVs σ l) = true → renVs ρ (renVs σ l) = l
  | [], _ => rfl
  | v :: r, h => by
    simp only [renVs, inSs, Bool.and_eq_true] at h
    simp only [renVs]
    rw [ren_back hσ v h.1, rens_back hσ r h.2]
end
variable (hσ : ∀ b, σ b < n → ρ (σ b) = b)
include hσ
theorem slots_back : ∀ l, slotsIn n (renVs σ l) = true → renVs ρ (renVs σ l) = l
  | [], _ => rfl
  | v :: r, h => by
    simp only [renVs, slotsIn, Bool.and_eq_true] at h
    simp only [renVs]
    rw [slots_back r h.2]
    congr 1
    by_cases ht : v = .top
    · subst ht; rfl
    · refine ren_back hσ v ?_
      have := h.1
      cases v <;> first | exact this | exact absurd rfl ht
theorem row_back {r : Row} (h : rowIn n (renR σ r) = true) : renR ρ (renR σ r) = r := by
  cases r with
  | vs l => simp only [renR, rowIn] at h ⊢; rw [rens_back hσ l h]
  | ints k l => rfl
  | strs l => rfl
theorem slots_get {l tmps : List V} (hin : slotsIn n tmps = true) (hw : ∀ (i : Nat) v, tmps[i]? = some v → v = .top ∨ (renVs σ l)[i]? = some v) : ∀ (i : Nat) v, tmps[i]? = some v → v = .top ∨ l[i]? = some (renV ρ v) := fun i v hi => by
  by_cases ht : v = .top
  · exact .inl ht
  · have h1 := (hw i v hi).resolve_left ht
    rw [renVs_eq, List.getElem?_map] at h1
    cases hl : l[i]? with
    | none => rw [hl] at h1; cases h1
    | some u =>
      rw [hl] at h1
      simp only [Option.map_some, Option.some.injEq] at h1
      subst h1
      have hs := slotsIn_get hin hi
      rw [ren_back hσ u (by cases hu : renV σ u <;> rw [hu] at hs ht <;> first | exact hs | exact absurd rfl ht)]
      exact .inr rfl
theorem BlkI.back {blk blk2 : Blk} (h : BlkI n (renB σ blk) blk2) : BlkW ρ n blk blk2 := by
  generalize hb : renB σ blk = b1 at h
  cases h with
  | dead => exact .dead _
  | same b hin =>
    subst hb
    cases blk with
    | dead => exact .dead _
    | defs => exact .defs
    | lent b0 n0 nn ty sz r =>
      simp only [renB, blkIn, Bool.and_eq_true, Nat.blt_eq] at hin
      have := BlkW.lent (ρ := ρ) (σ b0) (σ n0) nn ty sz (renR σ r) hin.1 hin.2.1 hin.2.2
      rw [row_back hσ hin.2.2, hσ b0 hin.1, hσ n0 hin.2.1] at this
      exact this
    | raw ty sz m => exact .raw ty sz m
    | ro r => have := BlkW.ro (ρ := ρ) (renR σ r) hin; rw [row_back hσ hin] at this; exact this
    | glob g r => have := BlkW.glob (ρ := ρ) g (renR σ r) hin; rw [row_back hσ hin] at this; exact this
    | rs nn sz r => have := BlkW.rs (ρ := ρ) nn sz (renR σ r) hin; rw [row_back hσ hin] at this; exact this
    | own ty r => have := BlkW.own (ρ := ρ) ty (renR σ r) hin; rw [row_back hσ hin] at this; exact this
    | grow nn ty sz r => have := BlkW.grow (ρ := ρ) nn nn ty sz (renR σ r) hin id; rw [row_back hσ hin] at this; exact this
    | loopB st me tmps ps assign body d =>
      simp only [renB, blkIn, Bool.and_eq_true, Nat.blt_eq] at hin
      have := BlkW.loopB (ρ := ρ) st me tmps (renVs σ tmps) ps assign body (σ d) hin.1 hin.2 (by rw [renVs_eq, List.length_map]) (slots_get hσ hin.1 fun i v hi => .inr hi)
      rw [hσ d hin.2] at this
      exact this
  | nil ty sz row hin =>
    cases blk <;> simp only [renB] at hb <;> try cases hb
    rename_i r
    have := BlkW.grow (ρ := ρ) true false ty sz (renR σ r) hin (fun h => by cases h)
    rw [row_back hσ hin] at this
    exact this
  | less st me old tmps ps assign body d h1 h2 h3 h4 =>
    cases blk <;> simp only [renB] at hb <;> try cases hb
    rename_i l d'
    have := BlkW.loopB (ρ := ρ) st me l tmps ps assign body (σ d') h1 h2 (by rw [h3, renVs_eq, List.length_map]) (slots_get hσ h1 h4)
    rw [hσ d' h2] at this
    exact this
end

/-- The renaming, as the list of the images of 0, 1, .. -/
def nthN : List Nat → Nat → Nat
  | [], b => b
  | a :: _, 0 => a
  | _ :: r, n + 1 => nthN r n
/-- Where a name stands in the list; behind its end if nowhere. -/
def idxN : List Nat → Nat → Nat
  | [], b => b
  | a :: r, b => bif Nat.beq a b then 0 else idxN r b + 1
theorem idxN_nth : ∀ {l : List Nat} {b : Nat}, idxN l b < l.length → nthN l (idxN l b) = b
  | [], b, h => by simp at h
  | a :: r, b, h => by
    unfold idxN at h ⊢
    cases hb : Nat.beq a b with
    | true => rw [cond_true]; simp only [nthN]; exact Nat.eq_of_beq_eq_true hb
    | false =>
      rw [hb, cond_false, List.length_cons] at h
      rw [cond_false]
      simp only [nthN]
      exact idxN_nth (by omega)
def mapN (f : Nat → Nat) : List Nat → List Nat
  | [] => []
  | a :: r => f a :: mapN f r
def readH (σ : Nat → Nat) (h : List Blk) : List Nat → List Blk
  | [] => []
  | a :: r => renB σ (getB h a) :: readH σ h r
/-- A state, its blocks under the names of the list's places. -/
def readS (l : List Nat) (s : AS) : AS := ⟨renVs (idxN l) s.tmps, readH (idxN l) s.heap l, mapN (idxN l) s.marks⟩
def idB : Nat → Nat → List Nat → Bool
  | 0, _, _ => true
  | _ + 1, _, [] => false
  | n + 1, i, a :: r => Nat.beq a i && idB n (i + 1) r
def notIn (b : Nat) : List Nat → Bool
  | [] => true
  | a :: r => !(Nat.beq a b) && notIn b r
def distinct : List Nat → Bool
  | [] => true
  | a :: r => notIn a r && distinct r
def allLt (n : Nat) : List Nat → Bool
  | [] => true
  | a :: r => Nat.blt a n && allLt n r
/-- The list may serve as a renaming behind the first n0 blocks. -/
def fitsB (n0 : Nat) (l : List Nat) (s : AS) : Bool := idB n0 0 l && (distinct l && (allLt s.heap.length l && allLt l.length (mapN (idxN l) s.marks)))
theorem idB_ok : ∀ {n i : Nat} {l : List Nat}, idB n i l = true → n ≤ l.length ∧ ∀ b, b < n → nthN l b = i + b
  | 0, i, l, _ => ⟨Nat.zero_le _, fun b hb => by omega⟩
  | n + 1, i, [], h => by simp [idB] at h
  | n + 1, i, a :: r, h => by
    simp only [idB, Bool.and_eq_true] at h
    have h1 := Nat.eq_of_beq_eq_true h.1
    obtain ⟨h2, h3⟩ := idB_ok h.2
    refine ⟨by simp only [List.length_cons]; omega, fun b hb => ?_⟩
    cases b with
    | zero => simp [nthN, h1]
    | succ b => simp only [nthN]; rw [h3 b (by omega)]; omega
theorem notIn_ok : ∀ {l : List Nat} {b : Nat}, notIn b l = true → ∀ j, j < l.length → nthN l j ≠ b
  | [], b, _, j, hj => by simp at hj
  | a :: r, b, h, 0, _ => by
    simp only [notIn, Bool.and_eq_true] at h
    intro e; simp only [nthN] at e; subst e; simp at h
  | a :: r, b, h, j + 1, hj => by
    simp only [notIn, Bool.and_eq_true] at h
    simp only [nthN]
    exact notIn_ok h.2 j (by simpa using hj)
theorem distinct_ok : ∀ {l : List Nat}, distinct l = true → ∀ b b', b < l.length → b' < l.length → nthN l b = nthN l b' → b = b'
  | [], _, b, _, hb, _, _ => by simp at hb
  | a :: r, h, b, b', hb, hb', he => by
    simp only [distinct, Bool.and_eq_true] at h
    cases b with
    | zero =>
      cases b' with
      | zero => rfl
      | succ b' => exact absurd he.symm (notIn_ok h.1 b' (by simpa using hb'))
    | succ b =>
      cases b' with
      | zero => exact absurd he (notIn_ok h.1 b (by simpa using hb))
      | succ b' => rw [distinct_ok h.2 b b' (by simpa using hb) (by simpa using hb') he]
theorem allLt_ok {n : Nat} : ∀ {l : List Nat}, allLt n l = true → (∀ j, j < l.length → nthN l j < n) ∧ ∀ x ∈ l, x < n
  | [], _ => ⟨fun j hj => by simp at hj, fun x hx => by cases hx⟩
  | a :: r, h => by
    simp only [allLt, Bool.and_eq_true, Nat.blt_eq] at h
    obtain ⟨h1, h2⟩ := allLt_ok h.2
    refine ⟨fun j hj => ?_, fun x hx => ?_⟩
    · cases j with
      | zero => exact h.1
      | succ j => exact h1 j (by simpa using hj)
    · rcases List.mem_cons.1 hx with rfl | hx
      · exact h.1
      · exact h2 x hx
theorem readH_get {σ : Nat → Nat} {h : List Blk} : ∀ {l : List Nat} {b : Nat} {blk : Blk}, (readH σ h l)[b]? = some blk → b < l.length ∧ blk = renB σ (getB h (nthN l b))
  | [], b, blk, hb => by simp [readH] at hb
  | a :: r, 0, blk, hb => by simp [readH] at hb; exact ⟨by simp, by simp [nthN, hb]⟩
  | a :: r, b + 1, blk, hb => by
    simp only [readH, List.getElem?_cons_succ] at hb
    obtain ⟨h1, h2⟩ := readH_get hb
    exact ⟨by simpa using h1, by simpa [nthN] using h2⟩
theorem readH_len {σ : Nat → Nat} {h : List Blk} : ∀ {l : List Nat}, (readH σ h l).length = l.length
  | [] => rfl
  | a :: r => by simp only [readH, List.length_cons, readH_len (l := r)]
theorem mapN_eq (f : Nat → Nat) (l : List Nat) : mapN f l = l.map f := by
  induction l with
  | nil => rfl
  | cons a r ih => simp [mapN, ih]

theorem Sub.of {n0 : Nat} {l : List Nat} {s s2 : AS} (hf : fitsB n0 l s = true) (hlen : s2.heap.length = l.length) (h : SubI (readS l s) s2) : Sub n0 (nthN l) s s2 := by
  simp only [fitsB, Bool.and_eq_true] at hf
  obtain ⟨f1, f2, f3, f4⟩ := hf
  obtain ⟨g1, g2⟩ := idB_ok f1
  have hσ : ∀ b, idxN l b < s2.heap.length → nthN l (idxN l b) = b := fun b hb => idxN_nth (by rw [← hlen]; exact hb)
  refine ⟨fun b hb => by rw [g2 b hb]; omega, fun b b' hb hb' he => distinct_ok f2 b b' (by rw [← hlen]; exact hb) (by rw [← hlen]; exact hb') he, ?_, fun i v hi => ?_, fun b blk2 hb => ?_, ?_, ?_, by rw [hlen]; exact g1⟩
  · rw [h.tlen]; simp [readS, renVs_eq]
  · rcases h.tmps i v hi with h1 | ⟨h1, h2⟩
    · exact .inl h1
    · refine .inr ⟨?_, h2⟩
      simp only [readS, renVs_eq, List.getElem?_map] at h1
      cases hs : s.tmps[i]? with
      | none => rw [hs] at h1; cases h1
      | some u =>
        rw [hs] at h1
        simp only [Option.map_some, Option.some.injEq] at h1
        subst h1
        rw [ren_back hσ u h2]
  · obtain ⟨blk, h1, h2⟩ := h.heap b blk2 hb
    obtain ⟨k1, rfl⟩ := readH_get h1
    have hlt := (allLt_ok f3).1 b k1
    refine ⟨getB s.heap (nthN l b), ?_, BlkI.back hσ h2⟩
    rw [getB_eq]
    rw [List.getElem?_eq_getElem hlt]
    rfl
  · rw [h.marks]
    simp only [readS, mapN_eq, List.map_map]
    have : ∀ x ∈ s.marks, nthN l (idxN l x) = x := fun x hx => idxN_nth ((allLt_ok f4).2 _ (by rw [mapN_eq]; exact List.mem_map.2 ⟨x, hx, rfl⟩))
    conv => rhs; rw [← List.map_id s.marks]
    exact List.map_congr_left this
  · exact h.scope
end Go.Eng
