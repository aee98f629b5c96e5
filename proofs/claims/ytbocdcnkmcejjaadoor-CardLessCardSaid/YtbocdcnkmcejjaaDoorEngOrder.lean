/- ENGINE, PART 7: the operations of a region, one after the other, and in whatever order the tape picks. -/
import Derived.Test.YtbocdcnkmcejjaaDoorEngRegion
namespace Go.Eng
open Go

/-- What one operation did. -/
structure Did where
  v : V
  rd : List Nat
  eff : HEff
  run : Bool

def guardA (ops : List Oper) (o : Oper) (tmps : List V) : Option Bool :=
  match o.guard with
  | none => some true
  | some (j, want) => match ops[j]? with
    | none => some false
    | some oj => match oj.dst with
      | none => some false
      | some d => match getV tmps d with
        | .bool b => some (eqB b want)
        | .tuple [] => some false
        | _ => none

def nextS (o : Oper) (s : AS) (x : Did) : AS := ⟨putV s.tmps o.dst x.v, x.eff.app s.heap, s.marks⟩

structure StepOk (P : Program) (ops : List Oper) (o : Oper) (s : AS) (x : Did) : Prop where
  guard : guardA ops o s.tmps = some x.run
  ran : x.run = true → (∀ c, o.op ≠ .defer c) ∧ OpEff P o (evalV s.tmps) s.heap x.v x.rd x.eff ∧ Same s.heap s.heap x.rd x.eff
  idle : x.run = false → x.v = undefV ∧ x.rd = [] ∧ x.eff = .none

section
variable {P : Program}

theorem guardA_real {ops : List Oper} {o : Oper} {E : Env} {s : AS} {a : Act} {W : World} {b : Bool} (hs : StOk E s a W) (hg : guardA ops o s.tmps = some b) :
    Region.wanted o (yielded ops.toArray a.tmps) = b := by
  unfold guardA at hg
  unfold Region.wanted
  split at hg
  · rename_i h0; rw [h0]; injection hg
  · rename_i j want h0
    rw [h0]
    simp only [yielded, List.getElem?_toArray]
    split at hg
    · rename_i hj; rw [hj]; injection hg
    · rename_i oj hj
      rw [hj]
      simp only [Option.bind_some]
      split at hg
      · rename_i hd; rw [hd]; injection hg
      · rename_i d hd
        rw [hd]
        simp only [Option.bind_some]
        rw [getV_eq] at hg
        cases ht : s.tmps[d]? with
        | none =>
          rw [ht] at hg
          have : a.tmps[d]? = none := by rw [Array.getElem?_eq_none_iff, hs.size]; exact List.getElem?_eq_none_iff.1 ht
          rw [this]
          simp only [Option.getD_none, undefV] at hg
          injection hg
        | some v =>
          rw [ht] at hg
          obtain ⟨x, hx, hv⟩ := hs.slots d v ht
          rw [hx]
          simp only [Option.getD_some] at hg
          split at hg
          · rename_i c
            have := hv.bool
            subst this
            injection hg with hg
            subst hg
            simp [← eqB_eq]
          · obtain ⟨e, _⟩ := hv.val (by simp)
            subst e
            injection hg
          · cases hg

theorem StepOk.wp {r : Option Nat} {ops : List Oper} {i : Nat} {o : Oper} {s : AS} {x : Did} (hi : ops[i]? = some o) (hx : StepOk P ops o s x) {E : Env} {a : Act} {W : World} (hs : StOk E s a W) {Q : Exit → Act → World → Prop} {Kn : Act → World → Prop}
    (hk : ∀ E' a' W', StOk E' (nextS o s x) a' W' → Trans E s.heap W E' (nextS o s x).heap W' → Kn a' W') : wpOpIn (fen r) 0 P ops.toArray Q i Kn a W := by
  unfold wpOpIn
  simp only [List.getElem?_toArray, hi]
  rw [guardA_real hs hx.guard]
  cases hr : x.run with
  | true =>
    obtain ⟨hnd, h1, h2⟩ := hx.ran hr
    simp only [if_true]
    refine h1 s.heap h2 E a W hs.heap (fun y _ => hs.eval y) Kn Q (fun z E' W' hz hh ht => ?_) hnd r
    exact hk E' _ W' (hs.put ht.agree ht.len hh o.dst hz) ht
  | false =>
    obtain ⟨h1, h2, h3⟩ := hx.idle hr
    simp only [Bool.false_eq_true, if_false]
    have hn : nextS o s x = ⟨putV s.tmps o.dst undefV, s.heap, s.marks⟩ := by simp [nextS, h1, h3, HEff.app]
    refine ⟨fun _ _ => trivial, hk E _ W ?_ ?_⟩
    · rw [hn]; exact hs.put (Agree.refl _ _) (Nat.le_refl _) hs.heap o.dst VR.undef
    · rw [hn]; exact Trans.refl _ _ _

/-- A run of operations: each with its number. -/
def PathOk (P : Program) (ops : List Oper) : AS → List (Nat × Oper × Did) → AS → Prop
  | s, [], e => s = e
  | s, (i, o, x) :: L, e => ops[i]? = some o ∧ StepOk P ops o s x ∧ PathOk P ops (nextS o s x) L e

/-- In the order of the text. -/
theorem PathOk.seq {r : Option Nat} {ops : List Oper} {Q : Exit → Act → World → Prop} : ∀ {L : List (Nat × Oper × Did)} {s e : AS} {E : Env} {a : Act} {W : World}, PathOk P ops s L e → StOk E s a W →
    (∀ E' a' W', StOk E' e a' W' → Trans E s.heap W E' e.heap W' → Q .normal a' W') → wpOpsIn (fen r) 0 P ops.toArray Q (L.map (·.1)) a W
  | [], s, e, E, a, W, hp, hs, hq => by
    cases hp
    exact hq E a W hs (Trans.refl _ _ _)
  | (i, o, x) :: L, s, e, E, a, W, hp, hs, hq => by
    obtain ⟨hi, hx, hp⟩ := hp
    simp only [List.map_cons]
    rw [wpOpsIn_cons]
    refine hx.wp hi hs fun E' a' W' hs' ht => ?_
    exact PathOk.seq hp hs' fun E'' a'' W'' hs'' ht' => hq E'' a'' W'' hs'' (ht.trans ht')

/-! ### two operations change places -/
def hcomm (x y : Did) : Bool := match x.eff, y.eff with
  | .none, .none => true
  | .none, .wr b _ => !(x.rd.contains b)
  | .wr b _, .none => !(y.rd.contains b)
  | .wr b _, .wr c _ => !(Nat.beq b c) && !(y.rd.contains b) && !(x.rd.contains c)
  | .none, .push n _ => x.rd.all (Nat.blt · n)
  | .push n _, .none => y.rd.all (Nat.blt · n)
  | .wr b _, .push n _ => Nat.blt b n && x.rd.all (Nat.blt · n) && !(y.rd.contains b)
  | .push n _, .wr c _ => Nat.blt c n && y.rd.all (Nat.blt · n) && !(x.rd.contains c)
  | .all _, .none => y.rd.isEmpty
  | .none, .all _ => x.rd.isEmpty
  | _, _ => false

theorem getB_set_ne {h : List Blk} {b c : Nat} {blk : Blk} (hne : c ≠ b) : (setB h b blk)[c]? = h[c]? := by
  rw [setB_eq, List.getElem?_set_ne (Ne.symm hne)]
theorem setB_comm (h : List Blk) {b c : Nat} (x y : Blk) (hne : b ≠ c) : setB (setB h b x) c y = setB (setB h c y) b x := by
  simp only [setB_eq]; exact List.set_comm _ _ hne
theorem setB_snoc (h : List Blk) {b : Nat} (x y : Blk) (hb : b < h.length) : setB (h ++ [y]) b x = setB h b x ++ [y] := by
  simp only [setB_eq]; rw [List.set_append_left _ _ hb]

/-- The second one may come first: over the memory that was there before the first one, and the first one behind it. -/
theorem hcomm_swap {x y : Did} (hc : hcomm x y = true) {h : List Blk} (hx : Same h h x.rd x.eff) (hy : Same (x.eff.app h) (x.eff.app h) y.rd y.eff) :
    Same h h y.rd y.eff ∧ (∀ h2, Same h h2 y.rd y.eff → Same (x.eff.app h) h2 y.rd y.eff) ∧
    Same (y.eff.app h) (y.eff.app h) x.rd x.eff ∧ (∀ h2, Same (y.eff.app h) h2 x.rd x.eff → Same h h2 x.rd x.eff) ∧
    y.eff.app (x.eff.app h) = x.eff.app (y.eff.app h) := by
  obtain ⟨xv, xr, xe, xb⟩ := x
  obtain ⟨yv, yr, ye, yb⟩ := y
  have app_get : ∀ {l : List Blk} {z : Blk} {b : Nat}, b < l.length → (l ++ [z])[b]? = l[b]? := fun {l z b} hb => List.getElem?_append_left hb
  have notIn : ∀ {l : List Nat} {b : Nat}, (!l.contains b) = true → ∀ z ∈ l, z ≠ b := fun {l b} hl z hz e => by
    subst e; simp [hz] at hl
  have allLt : ∀ {l : List Nat} {n : Nat}, l.all (Nat.blt · n) = true → ∀ z ∈ l, z < n := fun {l n} hl z hz => by
    have := List.all_eq_true.1 hl z hz; simpa using this
  cases xe <;> cases ye <;> dsimp only [hcomm, HEff.app, Same] at hc hx hy ⊢
  case none.none => exact ⟨fun _ _ => rfl, fun h2 hs => hs, fun _ _ => rfl, fun h2 hs => hs, rfl⟩
  case none.wr b blk =>
    have hne := notIn hc
    exact ⟨⟨fun _ _ => rfl, rfl⟩, fun h2 hs => hs, fun _ _ => rfl, fun h2 hs z hz => (hs z hz).trans (getB_set_ne (hne z hz)), rfl⟩
  case none.push n blk =>
    have hn : h.length = n := hy.2
    subst hn
    have hlt := allLt hc
    exact ⟨⟨fun _ _ => rfl, rfl⟩, fun h2 hs => hs, fun _ _ => rfl, fun h2 hs z hz => (hs z hz).trans (app_get (hlt z hz)), rfl⟩
  case none.all z =>
    have hx0 : xr = [] := by simpa using hc
    subst hx0
    exact ⟨rfl, fun h2 hs => hs, fun _ hz => (by cases hz), fun h2 hs _ hz => (by cases hz), rfl⟩
  case wr.none b blk =>
    have hne := notIn hc
    exact ⟨fun _ _ => rfl, fun h2 hs z hz => (hs z hz).trans (getB_set_ne (hne z hz)).symm, ⟨fun _ _ => rfl, rfl⟩, fun h2 hs => hs, rfl⟩
  case wr.wr b blk c blk' =>
    simp only [Bool.and_eq_true] at hc
    obtain ⟨⟨h1, h2⟩, h3⟩ := hc
    have hbc : b ≠ c := fun e => by subst e; simp at h1
    have hn1 := notIn h2
    have hn2 := notIn h3
    exact ⟨⟨fun _ _ => rfl, rfl⟩, fun h2 hs => ⟨fun z hz => (hs.1 z hz).trans (getB_set_ne (hn1 z hz)).symm, hs.2.trans (getB_set_ne hbc.symm).symm⟩,
      ⟨fun _ _ => rfl, rfl⟩, fun h2 hs => ⟨fun z hz => (hs.1 z hz).trans (getB_set_ne (hn2 z hz)), hs.2.trans (getB_set_ne hbc)⟩, setB_comm h blk blk' hbc⟩
  case wr.push b blk n blk' =>
    simp only [Bool.and_eq_true] at hc
    obtain ⟨⟨h1, h2⟩, h3⟩ := hc
    have hn : h.length = n := by have := hy.2; rwa [setB_len] at this
    subst hn
    have hb : b < h.length := by simpa using h1
    have hlt := allLt h2
    have hne := notIn h3
    exact ⟨⟨fun _ _ => rfl, rfl⟩, fun h2 hs => ⟨fun z hz => (hs.1 z hz).trans (getB_set_ne (hne z hz)).symm, hs.2⟩, ⟨fun _ _ => rfl, rfl⟩,
      fun h2 hs => ⟨fun z hz => (hs.1 z hz).trans (app_get (hlt z hz)), hs.2.trans (app_get hb)⟩, (setB_snoc h blk blk' hb).symm⟩
  case push.none n blk =>
    have hn : h.length = n := hx.2
    subst hn
    have hlt := allLt hc
    exact ⟨fun _ _ => rfl, fun h2 hs z hz => (hs z hz).trans (app_get (hlt z hz)).symm, ⟨fun _ _ => rfl, rfl⟩, fun h2 hs => hs, rfl⟩
  case push.wr n blk c blk' =>
    have hn : h.length = n := hx.2
    subst hn
    simp only [Bool.and_eq_true] at hc
    obtain ⟨⟨h1, h2⟩, h3⟩ := hc
    have hb : c < h.length := by simpa using h1
    have hlt := allLt h2
    have hne := notIn h3
    exact ⟨⟨fun _ _ => rfl, rfl⟩, fun h2 hs => ⟨fun z hz => (hs.1 z hz).trans (app_get (hlt z hz)).symm, hs.2.trans (app_get hb).symm⟩, ⟨fun _ _ => rfl, setB_len _ _ _⟩,
      fun h2 hs => ⟨fun z hz => (hs.1 z hz).trans (getB_set_ne (hne z hz)), hs.2⟩, setB_snoc h blk' blk hb⟩
  case all.none z =>
    have hy0 : yr = [] := by simpa using hc
    subst hy0
    exact ⟨fun _ hz => (by cases hz), fun h2 hs _ hz => (by cases hz), rfl, fun h2 hs => hs, rfl⟩
  all_goals exact absurd hc (by simp)

theorem OpEff.congr {o : Oper} {ev ev' : Operand → V} {h h' : List Blk} {v : V} {rd : List Nat} {eff : HEff} (hx : OpEff P o ev h v rd eff) (he : ∀ x ∈ o.op.operands, ev' x = ev x) (hh : ∀ h2, Same h' h2 rd eff → Same h h2 rd eff) :
    OpEff P o ev' h' v rd eff := fun h2 hs E a W hl hv => hx h2 (hh h2 hs) E a W hl (fun x hx => by rw [← he x hx]; exact hv x hx)

theorem evalV_put {tmps : List V} {d : Option Tmp} {v : V} {x : Operand} (h : ∀ t, d = some t → x ≠ .tmp t) : evalV (putV tmps d v) x = evalV tmps x := by
  cases d with
  | none => rfl
  | some d =>
    cases x with
    | tmp t =>
      have hne : d ≠ t := fun e => h d rfl (by rw [e])
      simp only [evalV, putV, getV_eq, setV_eq, List.getElem?_set_ne hne]
    | _ => rfl
theorem getV_put {tmps : List V} {d : Option Tmp} {v : V} {t : Nat} (h : d ≠ some t) : getV (putV tmps d v) t = getV tmps t := by
  cases d with
  | none => rfl
  | some d =>
    have hne : d ≠ t := fun e => h (by rw [e])
    simp only [putV, getV_eq, setV_eq, List.getElem?_set_ne hne]
theorem putV_comm (tmps : List V) {d e : Option Tmp} (v u : V) (h : ∀ t, d = some t → e ≠ some t) : putV (putV tmps d v) e u = putV (putV tmps e u) d v := by
  cases d with
  | none => rfl
  | some d =>
    cases e with
    | none => rfl
    | some e =>
      have hne : d ≠ e := fun he => h d rfl (by rw [he])
      simp only [putV, setV_eq]; exact List.set_comm _ _ hne
theorem guardA_put {ops : List Oper} {o : Oper} {tmps : List V} {d : Option Tmp} {v : V} (h : ∀ t, d = some t → t ∉ o.looksAt ops.toArray) : guardA ops o (putV tmps d v) = guardA ops o tmps := by
  unfold guardA
  cases hg : o.guard with
  | none => rfl
  | some g =>
    obtain ⟨j, want⟩ := g
    cases hj : ops[j]? with
    | none => simp only [hj]
    | some oj =>
      simp only [hj]
      cases hd : oj.dst with
      | none => rfl
      | some e =>
        have : getV (putV tmps d v) e = getV tmps e := getV_put fun he => h e he (by
          unfold Oper.looksAt
          rw [hg]
          simp [hj, hd])
        simp only [this]
theorem operands_looksAt {ops : Array Oper} {o : Oper} {t : Tmp} (h : .tmp t ∈ o.op.operands) : t ∈ o.looksAt ops := by
  unfold Oper.looksAt
  exact List.mem_append_left _ (List.mem_filterMap.2 ⟨.tmp t, by simpa using h, rfl⟩)

theorem step_swap {ops : List Oper} {o1 o2 : Oper} {x y : Did} {s : AS} (ha : o1.apart ops.toArray o2 = true) (hc : hcomm x y = true) (hx : StepOk P ops o1 s x) (hy : StepOk P ops o2 (nextS o1 s x) y) :
    StepOk P ops o2 s y ∧ StepOk P ops o1 (nextS o2 s y) x ∧ nextS o2 (nextS o1 s x) y = nextS o1 (nextS o2 s y) x := by
  obtain ⟨a1, a2, a3⟩ := Oper.apart_spec ha
  have sx : Same s.heap s.heap x.rd x.eff := by
    cases hr : x.run with
    | true => exact (hx.ran hr).2.2
    | false => obtain ⟨_, h2, h3⟩ := hx.idle hr; rw [h2, h3]; intro _ h; cases h
  have sy : Same (x.eff.app s.heap) (x.eff.app s.heap) y.rd y.eff := by
    cases hr : y.run with
    | true => exact (hy.ran hr).2.2
    | false => obtain ⟨_, h2, h3⟩ := hy.idle hr; rw [h2, h3]; intro _ h; cases h
  obtain ⟨q1, q2, q3, q4, q5⟩ := hcomm_swap hc sx sy
  refine ⟨⟨?_, fun hr => ⟨(hy.ran hr).1, ?_, q1⟩, hy.idle⟩, ⟨?_, fun hr => ⟨(hx.ran hr).1, ?_, q3⟩, hx.idle⟩, ?_⟩
  · have := hy.guard
    simp only [nextS] at this
    rwa [guardA_put a1] at this
  · exact (hy.ran hr).2.1.congr (fun z hz => by
      simp only [nextS]
      exact (evalV_put fun t ht e => a1 t ht (by subst e; exact operands_looksAt hz)).symm) q2
  · simp only [nextS]
    rw [guardA_put a3]; exact hx.guard
  · exact (hx.ran hr).2.1.congr (fun z hz => by
      simp only [nextS]
      exact evalV_put fun t ht e => a3 t ht (by subst e; exact operands_looksAt hz)) q4
  · simp only [nextS]
    rw [q5, putV_comm _ _ _ a2]

/-- An operation with which all that stand ahead of it may change places may come first. -/
theorem PathOk.front {ops : List Oper} {i : Nat} {o : Oper} {x : Did} {L2 : List (Nat × Oper × Did)} {e : AS} : ∀ {L1 : List (Nat × Oper × Did)} {s : AS}, PathOk P ops s (L1 ++ (i, o, x) :: L2) e →
    (∀ z ∈ L1, z.2.1.apart ops.toArray o = true ∧ hcomm z.2.2 x = true) → PathOk P ops s ((i, o, x) :: (L1 ++ L2)) e
  | [], s, hp, _ => hp
  | (j, o1, y) :: L1, s, hp, hc => by
    obtain ⟨hj, hy, hp⟩ := hp
    obtain ⟨hi, hx, hp⟩ := PathOk.front hp (fun z hz => hc z (by simp [hz]))
    obtain ⟨h1, h2⟩ := hc (j, o1, y) (by simp)
    obtain ⟨q1, q2, q3⟩ := step_swap h1 h2 hy hx
    exact ⟨hi, q1, hj, q2, by rw [← q3]; exact hp⟩

/-! ### whatever order the tape picks -/
/-- What an operation waits for, through others too: a number whose bits are the operations' numbers. -/
def maskOf (acc : List Nat) : List Edge → Nat → Nat
  | [], m => m
  | e :: r, m => maskOf acc r (bif Region.binds .any e then m ||| 2 ^ e.on ||| acc.getD e.on 0 else m)
def masks : List Oper → List Nat → List Nat
  | [], acc => acc
  | o :: r, acc => masks r (acc ++ [maskOf acc o.after.toList 0])
/-- Every operation waits for ones that stand ahead of it. -/
def backB : List Oper → Nat → Bool
  | [], _ => true
  | o :: r, k => o.after.toList.all (fun e => !Region.binds .any e || Nat.blt e.on k) && backB r (k + 1)
def pairB (ops : Array Oper) (m : List Nat) (x y : Nat × Oper × Did) : Bool := (m.getD y.1 0).testBit x.1 || (x.2.1.apart ops y.2.1 && hcomm x.2.2 y.2.2)
def freeB (ops : Array Oper) (m : List Nat) : List (Nat × Oper × Did) → Bool
  | [] => true
  | x :: r => r.all (pairB ops m x) && freeB ops m r

end
end Go.Eng
