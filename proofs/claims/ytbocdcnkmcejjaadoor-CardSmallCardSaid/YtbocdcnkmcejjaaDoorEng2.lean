/- THE ENGINE, piece 2: an interpreter of the model over abstract values, proved sound. -/
import Derived.Test.YtbocdcnkmcejjaaDoorEng1
import Derived.Laws.Cover3
import Derived.LoopNIn
import Derived.RangeFuncLeaves
import Derived.KernelRfl
/- ENGINE, PART 5g: slices beside nil. -/
namespace Go.Eng
open Go
section
variable {R : Type} {P : Program} {o : Oper} {ev : Operand → V} {h : List Blk} {K : KOp R}

def pos : Nat → Bool
  | 0 => false
  | _ + 1 => true
/-- The slice over this block is not nil. -/
def nnB : Blk → Bool
  | .rs nn _ row | .grow nn _ _ row => cond nn true (pos row.len)
  | _ => false
theorem nnB_ok {blk : Blk} (hb : nnB blk = true) {E : Env} {n b : Nat} {W : World} (hk : BlkOk E n W b blk) : E.isnil b = false ∧ blk ≠ .dead := by
  cases blk <;> simp only [nnB] at hb <;> try cases hb
  · obtain ⟨_, _, _, _, h4, _⟩ := hk
    refine ⟨?_, by simp⟩
    cases hn : E.isnil b with
    | false => rfl
    | true =>
      obtain ⟨e1, e2⟩ := h4 hn
      rw [e2, cond_false, e1] at hb
      cases hb
  · obtain ⟨_, _, _, _, _, h4, _⟩ := hk
    refine ⟨?_, by simp⟩
    cases hn : E.isnil b with
    | false => rfl
    | true =>
      obtain ⟨e1, e2⟩ := h4 hn
      rw [e2, cond_false, e1] at hb
      cases hb
/-- Whether a slice is nil, as far as it is known. -/
def isNil (x : V) (h : List Blk) (K : Bool → List Nat → Option R) : Option R := match x with
  | .gs b => cond (nnB (getB h b)) (K false [b]) none
  | .view b _ _ _ => cond (nnB (getB h b)) (K false [b]) none
  | .aslice _ _ _ _ => K false []
  | .flat (.slice ba 0 0) => K ba.isNone []
  | _ => none
theorem isNil_ok {x : V} {Kq : Bool → List Nat → Option R} {r : R} (hr : isNil x h Kq = some r) : ∃ q rd, Kq q rd = some r ∧
    ∀ h2, (∀ b ∈ rd, h2[b]? = h[b]?) → ∀ E W, Holds E h2 W → ∀ y, VR E h2.length x y → ∃ ba n c, y = .slice ba n c ∧ ba.isNone = q := by
  unfold isNil at hr
  split at hr
  · rename_i b
    cases hq : nnB (getB h b) with
    | false => rw [hq] at hr; cases hr
    | true =>
      rw [hq, cond_true] at hr
      refine ⟨_, _, hr, fun h2 hs E W hh y hy => ?_⟩
      have hb := getB_some (h := h) (b := b) rfl (fun e => by rw [e] at hq; cases hq)
      have hb2 : h2[b]? = some (getB h b) := (hs b (by simp)).trans hb
      obtain ⟨h1, _⟩ := nnB_ok hq (hh.ok b _ hb2)
      exact ⟨_, _, _, by rw [(hy.val (by simp)).1, conc, h1, cond_false], rfl⟩
  · rename_i b _ _ _
    cases hq : nnB (getB h b) with
    | false => rw [hq] at hr; cases hr
    | true =>
      rw [hq, cond_true] at hr
      refine ⟨_, _, hr, fun h2 hs E W hh y hy => ?_⟩
      have hb := getB_some (h := h) (b := b) rfl (fun e => by rw [e] at hq; cases hq)
      have hb2 : h2[b]? = some (getB h b) := (hs b (by simp)).trans hb
      obtain ⟨h1, _⟩ := nnB_ok hq (hh.ok b _ hb2)
      exact ⟨_, _, _, by rw [(hy.val (by simp)).1, conc, h1, cond_false], rfl⟩
  · exact ⟨_, _, hr, fun h2 _ E W hh y hy => ⟨_, _, _, (hy.val (by simp)).1, rfl⟩⟩
  · exact ⟨_, _, hr, fun h2 _ E W hh y hy => ⟨_, _, _, (hy.val (by simp)).1, rfl⟩⟩
  · cases hr

def aBinX (P : Program) (op : BinOp) (t : TypeId) (x y : V) (h : List Blk) (K : KOp R) : Option R := match y with
  | .flat (.slice none 0 0) => match P.underlying t with
    | some (.slice _) => isNil x h (fun q rd => match op with
      | .eql => K (.bool q) rd .none
      | .neq => K (.bool (!q)) rd .none
      | _ => none)
    | _ => none
  | y => aBin P op t x y K
theorem eqGuard_slice {op : BinOp} {t : TypeId} {x y : Operand} {ba : Option Addr} {n c : Nat} {v : Value} (W : World) : (eqGuard op t x y (.slice ba n c) v).run P W = .ok () W := by
  unfold eqGuard
  split <;> simp
theorem ok_binX {op : BinOp} {t yt : TypeId} {x y : Operand} (ho : o.op = .binOp op t x y yt) : AopOk P o ev h (aBinX P op t (ev x) (ev y) h K) K := by
  intro r hr
  unfold aBinX at hr
  split at hr
  · rename_i hy
    split at hr
    · rename_i e he
      obtain ⟨q, rd, hk, H⟩ := isNil_ok hr
      have main : ∀ (h2 : List Blk), (∀ b ∈ rd, h2[b]? = h[b]?) → ∀ E (a : Act) W, Holds E h2 W → (∀ x ∈ o.op.operands, VR E h2.length (ev x) (a.eval x)) →
          ∃ ba n c, a.eval x = .slice ba n c ∧ ba.isNone = q ∧ a.eval y = .slice none 0 0 := fun h2 hs E a W hh hv => by
        obtain ⟨ba, n, c, h1, h2'⟩ := H h2 hs E W hh _ (hv x (by simp [ho, Op.operands]))
        have h3 := hv y (by simp [ho, Op.operands])
        rw [hy] at h3
        exact ⟨ba, n, c, h1, h2', (h3.val (by simp)).1⟩
      split at hk
      · refine ⟨_, _, _, hk, fun _ _ => rfl, fun h2 hs => OpSem.value fun E a W hh hv => ⟨.bool q, VR.mkBool, ?_⟩⟩
        obtain ⟨ba, n, c, h1, h2', h3⟩ := main h2 hs E a W hh hv
        simp only [execOp, ho, h1, h3, Sem.run_bind, eqGuard_slice, Result.andThen_ok, binOp, run_equal_slice_nil _ t e ba n c he, Sem.run_pure, h2']
      · refine ⟨_, _, _, hk, fun _ _ => rfl, fun h2 hs => OpSem.value fun E a W hh hv => ⟨.bool (!q), VR.mkBool, ?_⟩⟩
        obtain ⟨ba, n, c, h1, h2', h3⟩ := main h2 hs E a W hh hv
        simp only [execOp, ho, h1, h3, Sem.run_bind, eqGuard_slice, Result.andThen_ok, binOp, run_equal_slice_nil _ t e ba n c he, Sem.run_pure, h2']
      · cases hk
    · cases hr
  · exact ok_bin ho r hr
end
end Go.Eng

/- ENGINE, PART 5h: copy into an array of ours. -/
namespace Go.Eng
open Go
section
variable {R : Type} {P : Program} {o : Oper} {ev : Operand → V} {h : List Blk} {K : KOp R}
/-- All cells of what is copied go into the array: it is long enough. -/
def aCopy (P : Program) (t : TypeId) (d x : V) (h : List Blk) (K : KOp R) : Option R := match P.underlying t with
  | some (.slice e) => match szT P e with
    | some 1 => match d with
      | .aslice b off len _ => match getB h b with
        | .own ty row => srcK x 1 h (fun row2 => match row2.toVs with
          | [] => none
          | v :: q => match rowOne row2 with
            | true => cond (decide (row2.len ≤ len)) (rowSet row off (v :: q) (fun row' => K (.int .i64 (Int.ofNat row2.len)) [] (.all (setB h b (.own ty row'))))) none
            | false => none)
        | _ => none
      | _ => none
    | _ => none
  | _ => none
theorem ok_copy {c : Call} {t : TypeId} {so xo : Operand} (ho : o.op = .call c) (hc : c.callee = .builtin .copy) (hargs : c.args = #[so, xo]) (ht : c.argTypes[0]? = some t) :
    AopOk P o ev h (aCopy P t (ev so) (ev xo) h K) K := by
  intro r hr
  generalize hsv : ev so = sv at hr
  unfold aCopy at hr
  split at hr
  · rename_i e hte
    split at hr
    · rename_i hsz
      split at hr
      · rename_i b off len cap
        split at hr
        · rename_i ty row hblk
          obtain ⟨row2, hr2, Hsrc⟩ := srcK_ok (P := P) (by omega) hr
          split at hr2
          · cases hr2
          · rename_i v q hvq
            split at hr2
            · rename_i hone
              cases hcd : decide (row2.len ≤ len) with
              | false => rw [hcd] at hr2; cases hr2
              | true =>
                rw [hcd, cond_true] at hr2
                simp only [decide_eq_true_eq] at hcd
                obtain ⟨row', hk, hfit, hrow⟩ := rowSet_ok hr2
                refine ⟨_, _, _, hk, rfl, fun hx hsame => ?_⟩
                have hsame : hx = h := hsame
                subst hsame
                intro E a W hh hv next Q hnext
                have hops : ∀ y, y = so ∨ y = xo → VR E hx.length (ev y) (a.eval y) := fun y hy => hv y (by
                  rw [ho]; simp only [Op.operands, Call.operands, hc, hargs]; rcases hy with rfl | rfl <;> simp)
                obtain ⟨hin2, n, hn, hlen2, hfirst2⟩ := Hsrc E W hh _ (hops xo (.inr rfl))
                have hso := hops so (.inl rfl)
                rw [hsv] at hso
                have hs := (hso.val (by simp)).1
                have hb := getB_some hblk (by simp)
                rw [hvq] at hin2 hn hfirst2
                have honeV : ∀ u ∈ v :: q, oneV u = true := fun u hu => by
                  rw [← hvq] at hu
                  cases row2 with
                  | vs l => exact allOne_mem hone u hu
                  | ints k l => obtain ⟨z, _, rfl⟩ := List.mem_map.1 hu; rfl
                  | strs l => obtain ⟨z, _, rfl⟩ := List.mem_map.1 hu; rfl
                obtain ⟨W', hst, h1, h3⟩ := hh.store (P := P) hb (blk' := .own ty row') (.inl ⟨ty, row, rfl, rfl⟩) (by simp) hfit hrow hin2 honeV
                have hrl : row2.len = n := by rw [Row.len_eq, hvq]; omega
                have hmin : Nat.min n len = n := Nat.min_eq_left (by omega)
                have hrun : (Builtin.copy_ c.argTypes o.type #[a.eval so, a.eval xo]).run P W = .ok (.int .i64 n) W' := by
                  unfold Builtin.copy_
                  rw [hs, conc]
                  obtain ⟨i, hi, hi1⟩ : ∃ i, P.info? e = some i ∧ i.size = 1 := by
                    unfold szT at hsz
                    cases hi : P.info? e with
                    | none => rw [hi] at hsz; simp at hsz
                    | some i => rw [hi] at hsz; exact ⟨i, rfl, by simpa using hsz⟩
                  simp only [ht, List.getElem?_toArray, List.getElem?_cons_zero, List.getElem?_cons_succ, Sem.run_bind, run_underlying hte, Result.andThen_ok, hlen2, hmin, run_szT hsz, hfirst2 W hh, hst, Sem.run_pure, goInt]
                have hargs' : c.args.map a.eval = #[a.eval so, a.eval xo] := by rw [hargs]; simp
                have hrun' : (execOp a.eval o).run P W = .ok (.value (.int .i64 n)) W' := by
                  simp only [execOp, ho, resolve, hc, Sem.run_bind, Sem.run_pure, Result.andThen_ok, invoke, builtin, hargs', hrun]
                refine Oper.wpE_value hrun' ?_
                exact hnext _ _ _ (.inr ⟨rfl, by rw [hrl]; rfl⟩) h1 h3
            · cases hr2
        · cases hr
      · cases hr
    · cases hr
  · cases hr
end
end Go.Eng

/- ENGINE, PART 7: the operations of a region, one after the other, and in whatever order the tape picks. -/
namespace Go.Eng
open Go

/-- What one operation did. -/
structure Did where
  v : V
  rd : List Nat
  eff : HEff
  run : Bool

def guardA (ops : List Oper) (o : Oper) (tmps : List V) : Option Bool :=
  match o.guard with
  | none => some true
  | some (j, want) => match ops[j]? with
    | none => some false
    | some oj => match oj.dst with
      | none => some false
      | some d => match getV tmps d with
        | .bool b => some (eqB b want)
        | .tuple [] => some false
        | _ => none

def nextS (o : Oper) (s : AS) (x : Did) : AS := ⟨putV s.tmps o.dst x.v, x.eff.app s.heap, s.marks⟩

/-- What lays memory: whatever the memory. -/
def isBorn (o : Oper) : Bool := match o.op with
  | .alloc _ => true
  | .buildSlice _ _ _ => true
  | .call c => match c.callee with
    | .value _ => true
    | _ => false
  | _ => false
def BornOk (P : Program) (o : Oper) (ev : Operand → V) (h : List Blk) (x : Did) : Prop := isBorn o = true → x.run = true → ∀ n blk, x.eff = .push n blk → OpBorn P o ev h x.v x.rd n blk
theorem BornOk.congr {P : Program} {o : Oper} {ev ev' : Operand → V} {h h' : List Blk} {x : Did} (hb : BornOk P o ev h x) (he : ∀ z ∈ o.op.operands, ev' z = ev z) (hh : ∀ b ∈ x.rd, h'[b]? = h[b]?) : BornOk P o ev' h' x :=
  fun h1 h2 n blk hx => (hb h1 h2 n blk hx).congr he hh
theorem Same.rds {h h2 : List Blk} {rd : List Nat} {eff : HEff} (hs : Same h h2 rd eff) : ∀ b ∈ rd, h2[b]? = h[b]? := by
  cases eff with
  | none => exact hs
  | wr b blk => exact hs.1
  | push n blk => exact hs.1
  | kpush b n blk => exact hs.1
  | all h' => intro b _; rw [show h2 = h from hs]
structure StepOk (P : Program) (ops : List Oper) (o : Oper) (s : AS) (x : Did) : Prop where
  guard : guardA ops o s.tmps = some x.run
  ran : x.run = true → (∀ c, o.op ≠ .defer c) ∧ OpEff P o (evalV s.tmps) s.heap x.v x.rd x.eff ∧ Same s.heap s.heap x.rd x.eff
  idle : x.run = false → x.v = undefV ∧ x.rd = [] ∧ x.eff = .none
  born : BornOk P o (evalV s.tmps) s.heap x

section
variable {P : Program}

theorem guardA_real {ops : List Oper} {o : Oper} {E : Env} {s : AS} {a : Act} {W : World} {b : Bool} (hs : StOk E s a W) (hg : guardA ops o s.tmps = some b) :
    Region.wanted o (yielded ops.toArray a.tmps) = b := by
  unfold guardA at hg
  unfold Region.wanted
  split at hg
  · rename_i h0; rw [h0]; injection hg
  · rename_i j want h0
    rw [h0]
    simp only [yielded, List.getElem?_toArray]
    split at hg
    · rename_i hj; rw [hj]; injection hg
    · rename_i oj hj
      rw [hj]
      simp only [Option.bind_some]
      split at hg
      · rename_i hd; rw [hd]; injection hg
      · rename_i d hd
        rw [hd]
        simp only [Option.bind_some]
        rw [getV_eq] at hg
        cases ht : s.tmps[d]? with
        | none =>
          rw [ht] at hg
          have : a.tmps[d]? = none := by rw [Array.getElem?_eq_none_iff, hs.size]; exact List.getElem?_eq_none_iff.1 ht
          rw [this]
          simp only [Option.getD_none, undefV] at hg
          injection hg
        | some v =>
          rw [ht] at hg
          obtain ⟨x, hx, hv⟩ := hs.slots d v ht
          rw [hx]
          simp only [Option.getD_some] at hg
          split at hg
          · rename_i c
            have := hv.bool
            subst this
            injection hg with hg
            subst hg
            simp [← eqB_eq]
          · obtain ⟨e, _⟩ := hv.val (by simp)
            subst e
            injection hg
          · cases hg

theorem StepOk.wp {r : Option Nat} {ops : List Oper} {i : Nat} {o : Oper} {s : AS} {x : Did} (hi : ops[i]? = some o) (hx : StepOk P ops o s x) {E : Env} {a : Act} {W : World} (hs : StOk E s a W) {Q : Exit → Act → World → Prop} {Kn : Act → World → Prop}
    (hk : ∀ E' a' W', StOk E' (nextS o s x) a' W' → Trans E s.heap W E' (nextS o s x).heap W' → Kn a' W') : wpOpIn (fen r) 0 P ops.toArray Q i Kn a W := by
  unfold wpOpIn
  simp only [List.getElem?_toArray, hi]
  rw [guardA_real hs hx.guard]
  cases hr : x.run with
  | true =>
    obtain ⟨hnd, h1, h2⟩ := hx.ran hr
    simp only [if_true]
    refine h1 s.heap h2 E a W hs.heap (fun y _ => hs.eval y) Kn Q (fun z E' W' hz hh ht => ?_) hnd r
    exact hk E' _ W' (hs.put ht.agree ht.len hh o.dst hz) ht
  | false =>
    obtain ⟨h1, h2, h3⟩ := hx.idle hr
    simp only [Bool.false_eq_true, if_false]
    have hn : nextS o s x = ⟨putV s.tmps o.dst undefV, s.heap, s.marks⟩ := by simp [nextS, h1, h3, HEff.app]
    refine ⟨fun _ _ => trivial, hk E _ W ?_ ?_⟩
    · rw [hn]; exact hs.put (Agree.refl _ _) (Nat.le_refl _) hs.heap o.dst VR.undef
    · rw [hn]; exact Trans.refl _ _ _

/-- A run of operations: each with its number. -/
def PathOk (P : Program) (ops : List Oper) : AS → List (Nat × Oper × Did) → AS → Prop
  | s, [], e => s = e
  | s, (i, o, x) :: L, e => ops[i]? = some o ∧ StepOk P ops o s x ∧ PathOk P ops (nextS o s x) L e

/-- In the order of the text. -/
theorem PathOk.seq {r : Option Nat} {ops : List Oper} {Q : Exit → Act → World → Prop} : ∀ {L : List (Nat × Oper × Did)} {s e : AS} {E : Env} {a : Act} {W : World}, PathOk P ops s L e → StOk E s a W →
    (∀ E' a' W', StOk E' e a' W' → Trans E s.heap W E' e.heap W' → Q .normal a' W') → wpOpsIn (fen r) 0 P ops.toArray Q (L.map (·.1)) a W
  | [], s, e, E, a, W, hp, hs, hq => by
    cases hp
    exact hq E a W hs (Trans.refl _ _ _)
  | (i, o, x) :: L, s, e, E, a, W, hp, hs, hq => by
    obtain ⟨hi, hx, hp⟩ := hp
    simp only [List.map_cons]
    rw [wpOpsIn_cons]
    refine hx.wp hi hs fun E' a' W' hs' ht => ?_
    exact PathOk.seq hp hs' fun E'' a'' W'' hs'' ht' => hq E'' a'' W'' hs'' (ht.trans ht')

/-! ### two operations change places -/
def hcomm (x y : Did) : Bool := match x.eff, y.eff with
  | .none, .none => true
  | .none, .wr b _ => !(x.rd.contains b)
  | .wr b _, .none => !(y.rd.contains b)
  | .wr b _, .wr c _ => !(Nat.beq b c) && !(y.rd.contains b) && !(x.rd.contains c)
  | .none, .push n _ => x.rd.all (Nat.blt · n)
  | .push n _, .none => y.rd.all (Nat.blt · n)
  | .wr b _, .push n _ => Nat.blt b n && x.rd.all (Nat.blt · n) && !(y.rd.contains b)
  | .push n _, .wr c _ => Nat.blt c n && y.rd.all (Nat.blt · n) && !(x.rd.contains c)
  | .kpush b n _, .none => y.rd.all (fun z => Nat.blt z n && !(Nat.beq z b))
  | .none, .kpush b n _ => x.rd.all (fun z => Nat.blt z n && !(Nat.beq z b))
  | .all _, .none => y.rd.isEmpty
  | .none, .all _ => x.rd.isEmpty
  | _, _ => false

theorem getB_set_ne {h : List Blk} {b c : Nat} {blk : Blk} (hne : c ≠ b) : (setB h b blk)[c]? = h[c]? := by
  rw [setB_eq, List.getElem?_set_ne (Ne.symm hne)]
theorem setB_comm (h : List Blk) {b c : Nat} (x y : Blk) (hne : b ≠ c) : setB (setB h b x) c y = setB (setB h c y) b x := by
  simp only [setB_eq]; exact List.set_comm _ _ hne
theorem setB_snoc (h : List Blk) {b : Nat} (x y : Blk) (hb : b < h.length) : setB (h ++ [y]) b x = setB h b x ++ [y] := by
  simp only [setB_eq]; rw [List.set_append_left _ _ hb]

/-- The second one may come first: over the memory that was there before the first one, and the first one behind it. -/
theorem hcomm_swap {x y : Did} (hc : hcomm x y = true) {h : List Blk} (hx : Same h h x.rd x.eff) (hy : Same (x.eff.app h) (x.eff.app h) y.rd y.eff) :
    Same h h y.rd y.eff ∧ (∀ h2, Same h h2 y.rd y.eff → Same (x.eff.app h) h2 y.rd y.eff) ∧
    Same (y.eff.app h) (y.eff.app h) x.rd x.eff ∧ (∀ h2, Same (y.eff.app h) h2 x.rd x.eff → Same h h2 x.rd x.eff) ∧
    y.eff.app (x.eff.app h) = x.eff.app (y.eff.app h) := by
  obtain ⟨xv, xr, xe, xb⟩ := x
  obtain ⟨yv, yr, ye, yb⟩ := y
  have app_get : ∀ {l : List Blk} {z : Blk} {b : Nat}, b < l.length → (l ++ [z])[b]? = l[b]? := fun {l z b} hb => List.getElem?_append_left hb
  have notIn : ∀ {l : List Nat} {b : Nat}, (!l.contains b) = true → ∀ z ∈ l, z ≠ b := fun {l b} hl z hz e => by
    subst e; simp [hz] at hl
  have allLt : ∀ {l : List Nat} {n : Nat}, l.all (Nat.blt · n) = true → ∀ z ∈ l, z < n := fun {l n} hl z hz => by
    have := List.all_eq_true.1 hl z hz; simpa using this
  cases xe <;> cases ye <;> dsimp only [hcomm, HEff.app, Same] at hc hx hy ⊢
  case none.none => exact ⟨fun _ _ => rfl, fun h2 hs => hs, fun _ _ => rfl, fun h2 hs => hs, rfl⟩
  case none.wr b blk =>
    have hne := notIn hc
    exact ⟨⟨fun _ _ => rfl, rfl⟩, fun h2 hs => hs, fun _ _ => rfl, fun h2 hs z hz => (hs z hz).trans (getB_set_ne (hne z hz)), rfl⟩
  case none.push n blk =>
    have hn : h.length = n := hy.2
    subst hn
    have hlt := allLt hc
    exact ⟨⟨fun _ _ => rfl, rfl⟩, fun h2 hs => hs, fun _ _ => rfl, fun h2 hs z hz => (hs z hz).trans (app_get (hlt z hz)), rfl⟩
  case none.all z =>
    have hx0 : xr = [] := by simpa using hc
    subst hx0
    exact ⟨rfl, fun h2 hs => hs, fun _ hz => (by cases hz), fun h2 hs _ hz => (by cases hz), rfl⟩
  case wr.none b blk =>
    have hne := notIn hc
    exact ⟨fun _ _ => rfl, fun h2 hs z hz => (hs z hz).trans (getB_set_ne (hne z hz)).symm, ⟨fun _ _ => rfl, rfl⟩, fun h2 hs => hs, rfl⟩
  case wr.wr b blk c blk' =>
    simp only [Bool.and_eq_true] at hc
    obtain ⟨⟨h1, h2⟩, h3⟩ := hc
    have hbc : b ≠ c := fun e => by subst e; simp at h1
    have hn1 := notIn h2
    have hn2 := notIn h3
    exact ⟨⟨fun _ _ => rfl, rfl⟩, fun h2 hs => ⟨fun z hz => (hs.1 z hz).trans (getB_set_ne (hn1 z hz)).symm, hs.2.trans (getB_set_ne hbc.symm).symm⟩,
      ⟨fun _ _ => rfl, rfl⟩, fun h2 hs => ⟨fun z hz => (hs.1 z hz).trans (getB_set_ne (hn2 z hz)), hs.2.trans (getB_set_ne hbc)⟩, setB_comm h blk blk' hbc⟩
  case wr.push b blk n blk' =>
    simp only [Bool.and_eq_true] at hc
    obtain ⟨⟨h1, h2⟩, h3⟩ := hc
    have hn : h.length = n := by have := hy.2; rwa [setB_len] at this
    subst hn
    have hb : b < h.length := by simpa using h1
    have hlt := allLt h2
    have hne := notIn h3
    exact ⟨⟨fun _ _ => rfl, rfl⟩, fun h2 hs => ⟨fun z hz => (hs.1 z hz).trans (getB_set_ne (hne z hz)).symm, hs.2⟩, ⟨fun _ _ => rfl, rfl⟩,
      fun h2 hs => ⟨fun z hz => (hs.1 z hz).trans (app_get (hlt z hz)), hs.2.trans (app_get hb)⟩, (setB_snoc h blk blk' hb).symm⟩
  case push.none n blk =>
    have hn : h.length = n := hx.2
    subst hn
    have hlt := allLt hc
    exact ⟨fun _ _ => rfl, fun h2 hs z hz => (hs z hz).trans (app_get (hlt z hz)).symm, ⟨fun _ _ => rfl, rfl⟩, fun h2 hs => hs, rfl⟩
  case push.wr n blk c blk' =>
    have hn : h.length = n := hx.2
    subst hn
    simp only [Bool.and_eq_true] at hc
    obtain ⟨⟨h1, h2⟩, h3⟩ := hc
    have hb : c < h.length := by simpa using h1
    have hlt := allLt h2
    have hne := notIn h3
    exact ⟨⟨fun _ _ => rfl, rfl⟩, fun h2 hs => ⟨fun z hz => (hs.1 z hz).trans (app_get (hlt z hz)).symm, hs.2.trans (app_get hb).symm⟩, ⟨fun _ _ => rfl, setB_len _ _ _⟩,
      fun h2 hs => ⟨fun z hz => (hs.1 z hz).trans (getB_set_ne (hne z hz)), hs.2⟩, setB_snoc h blk' blk hb⟩
  case none.kpush b n blk =>
    have hn : h.length = n := hy.2.2
    subst hn
    have hz : ∀ z ∈ xr, z < h.length ∧ z ≠ b := fun z hz => by
      have := List.all_eq_true.1 hc z hz
      simp only [Bool.and_eq_true, Bool.not_eq_eq_eq_not, Bool.not_true] at this
      exact ⟨by simpa using this.1, fun e => by subst e; simp at this⟩
    exact ⟨⟨fun _ _ => rfl, rfl, rfl⟩, fun h2 hs => hs, fun _ _ => rfl, fun h2 hs z hm => (hs z hm).trans ((app_get (by rw [setB_len]; exact (hz z hm).1)).trans (getB_set_ne (hz z hm).2)), rfl⟩
  case kpush.none b n blk =>
    have hn : h.length = n := hx.2.2
    subst hn
    have hz : ∀ z ∈ yr, z < h.length ∧ z ≠ b := fun z hz => by
      have := List.all_eq_true.1 hc z hz
      simp only [Bool.and_eq_true, Bool.not_eq_eq_eq_not, Bool.not_true] at this
      exact ⟨by simpa using this.1, fun e => by subst e; simp at this⟩
    exact ⟨fun _ _ => rfl, fun h2 hs z hm => (hs z hm).trans ((app_get (by rw [setB_len]; exact (hz z hm).1)).trans (getB_set_ne (hz z hm).2)).symm, ⟨fun _ _ => rfl, rfl, rfl⟩, fun h2 hs => hs, rfl⟩
  case all.none z =>
    have hy0 : yr = [] := by simpa using hc
    subst hy0
    exact ⟨fun _ hz => (by cases hz), fun h2 hs _ hz => (by cases hz), rfl, fun h2 hs => hs, rfl⟩
  all_goals exact absurd hc (by simp)

theorem OpEff.congr {o : Oper} {ev ev' : Operand → V} {h h' : List Blk} {v : V} {rd : List Nat} {eff : HEff} (hx : OpEff P o ev h v rd eff) (he : ∀ x ∈ o.op.operands, ev' x = ev x) (hh : ∀ h2, Same h' h2 rd eff → Same h h2 rd eff) :
    OpEff P o ev' h' v rd eff := fun h2 hs E a W hl hv => hx h2 (hh h2 hs) E a W hl (fun x hx => by rw [← he x hx]; exact hv x hx)

theorem evalV_put {tmps : List V} {d : Option Tmp} {v : V} {x : Operand} (h : ∀ t, d = some t → x ≠ .tmp t) : evalV (putV tmps d v) x = evalV tmps x := by
  cases d with
  | none => rfl
  | some d =>
    cases x with
    | tmp t =>
      have hne : d ≠ t := fun e => h d rfl (by rw [e])
      simp only [evalV, putV, getV_eq, setV_eq, List.getElem?_set_ne hne]
    | _ => rfl
theorem getV_put {tmps : List V} {d : Option Tmp} {v : V} {t : Nat} (h : d ≠ some t) : getV (putV tmps d v) t = getV tmps t := by
  cases d with
  | none => rfl
  | some d =>
    have hne : d ≠ t := fun e => h (by rw [e])
    simp only [putV, getV_eq, setV_eq, List.getElem?_set_ne hne]
theorem putV_comm (tmps : List V) {d e : Option Tmp} (v u : V) (h : ∀ t, d = some t → e ≠ some t) : putV (putV tmps d v) e u = putV (putV tmps e u) d v := by
  cases d with
  | none => rfl
  | some d =>
    cases e with
    | none => rfl
    | some e =>
      have hne : d ≠ e := fun he => h d rfl (by rw [he])
      simp only [putV, setV_eq]; exact List.set_comm _ _ hne
theorem guardA_put {ops : List Oper} {o : Oper} {tmps : List V} {d : Option Tmp} {v : V} (h : ∀ t, d = some t → t ∉ o.looksAt ops.toArray) : guardA ops o (putV tmps d v) = guardA ops o tmps := by
  unfold guardA
  cases hg : o.guard with
  | none => rfl
  | some g =>
    obtain ⟨j, want⟩ := g
    cases hj : ops[j]? with
    | none => simp only [hj]
    | some oj =>
      simp only [hj]
      cases hd : oj.dst with
      | none => rfl
      | some e =>
        have : getV (putV tmps d v) e = getV tmps e := getV_put fun he => h e he (by
          unfold Oper.looksAt
          rw [hg]
          simp [hj, hd])
        simp only [this]
theorem operands_looksAt {ops : Array Oper} {o : Oper} {t : Tmp} (h : .tmp t ∈ o.op.operands) : t ∈ o.looksAt ops := by
  unfold Oper.looksAt
  exact List.mem_append_left _ (List.mem_filterMap.2 ⟨.tmp t, by simpa using h, rfl⟩)

theorem step_swap {ops : List Oper} {o1 o2 : Oper} {x y : Did} {s : AS} (ha : o1.apart ops.toArray o2 = true) (hc : hcomm x y = true) (hx : StepOk P ops o1 s x) (hy : StepOk P ops o2 (nextS o1 s x) y) :
    StepOk P ops o2 s y ∧ StepOk P ops o1 (nextS o2 s y) x ∧ nextS o2 (nextS o1 s x) y = nextS o1 (nextS o2 s y) x := by
  obtain ⟨a1, a2, a3⟩ := Oper.apart_spec ha
  have sx : Same s.heap s.heap x.rd x.eff := by
    cases hr : x.run with
    | true => exact (hx.ran hr).2.2
    | false => obtain ⟨_, h2, h3⟩ := hx.idle hr; rw [h2, h3]; intro _ h; cases h
  have sy : Same (x.eff.app s.heap) (x.eff.app s.heap) y.rd y.eff := by
    cases hr : y.run with
    | true => exact (hy.ran hr).2.2
    | false => obtain ⟨_, h2, h3⟩ := hy.idle hr; rw [h2, h3]; intro _ h; cases h
  obtain ⟨q1, q2, q3, q4, q5⟩ := hcomm_swap hc sx sy
  have ey : ∀ z ∈ o2.op.operands, evalV s.tmps z = evalV (nextS o1 s x).tmps z := fun z hz => by
    simp only [nextS]
    exact (evalV_put fun t ht e => a1 t ht (by subst e; exact operands_looksAt hz)).symm
  have ex : ∀ z ∈ o1.op.operands, evalV (nextS o2 s y).tmps z = evalV s.tmps z := fun z hz => by
    simp only [nextS]
    exact evalV_put fun t ht e => a3 t ht (by subst e; exact operands_looksAt hz)
  refine ⟨⟨?_, fun hr => ⟨(hy.ran hr).1, ?_, q1⟩, hy.idle, hy.born.congr ey (q2 _ q1).rds⟩, ⟨?_, fun hr => ⟨(hx.ran hr).1, ?_, q3⟩, hx.idle, hx.born.congr ex (q4 _ q3).rds⟩, ?_⟩
  · have := hy.guard
    simp only [nextS] at this
    rwa [guardA_put a1] at this
  · exact (hy.ran hr).2.1.congr ey q2
  · simp only [nextS]
    rw [guardA_put a3]; exact hx.guard
  · exact (hx.ran hr).2.1.congr ex q4
  · simp only [nextS]
    rw [q5, putV_comm _ _ _ a2]

/-- An operation with which all that stand ahead of it may change places may come first. -/
theorem PathOk.front {ops : List Oper} {i : Nat} {o : Oper} {x : Did} {L2 : List (Nat × Oper × Did)} {e : AS} : ∀ {L1 : List (Nat × Oper × Did)} {s : AS}, PathOk P ops s (L1 ++ (i, o, x) :: L2) e →
    (∀ z ∈ L1, z.2.1.apart ops.toArray o = true ∧ hcomm z.2.2 x = true) → PathOk P ops s ((i, o, x) :: (L1 ++ L2)) e
  | [], s, hp, _ => hp
  | (j, o1, y) :: L1, s, hp, hc => by
    obtain ⟨hj, hy, hp⟩ := hp
    obtain ⟨hi, hx, hp⟩ := PathOk.front hp (fun z hz => hc z (by simp [hz]))
    obtain ⟨h1, h2⟩ := hc (j, o1, y) (by simp)
    obtain ⟨q1, q2, q3⟩ := step_swap h1 h2 hy hx
    exact ⟨hi, q1, hj, q2, by rw [← q3]; exact hp⟩

/-! ### whatever order the tape picks -/
/-- What an operation waits for, through others too: a number whose bits are the operations' numbers. -/
def maskOf (acc : List Nat) : List Edge → Nat → Nat
  | [], m => m
  | e :: r, m => maskOf acc r (bif Region.binds .any e then m ||| 2 ^ e.on ||| acc.getD e.on 0 else m)
def masks : List Oper → List Nat → List Nat
  | [], acc => acc
  | o :: r, acc => masks r (acc ++ [maskOf acc o.after.toList 0])
/-- Every operation waits for ones that stand ahead of it. -/
def backB : List Oper → Nat → Bool
  | [], _ => true
  | o :: r, k => o.after.toList.all (fun e => !Region.binds .any e || Nat.blt e.on k) && backB r (k + 1)
def pairB (ops : Array Oper) (m : List Nat) (x y : Nat × Oper × Did) : Bool := (m.getD y.1 0).testBit x.1 || (x.2.1.apart ops y.2.1 && hcomm x.2.2 y.2.2)
def freeB (ops : Array Oper) (m : List Nat) : List (Nat × Oper × Did) → Bool
  | [] => true
  | x :: r => r.all (pairB ops m x) && freeB ops m r

end
end Go.Eng

/- ENGINE, PART 8: a region that draws its order. -/
namespace Go.Eng
open Go
section
variable {P : Program}

theorem maskOf_spec {acc : List Nat} {i : Nat} : ∀ {es : List Edge} {m : Nat}, (maskOf acc es m).testBit i = true → m.testBit i = true ∨ ∃ e ∈ es, Region.binds .any e = true ∧ (e.on = i ∨ (acc.getD e.on 0).testBit i = true)
  | [], m, h => .inl h
  | e :: r, m, h => by
    simp only [maskOf] at h
    rcases maskOf_spec h with h1 | ⟨e', he, hb, h1⟩
    · cases hb : Region.binds .any e with
      | false => rw [hb] at h1; exact .inl h1
      | true =>
        rw [hb] at h1
        simp only [cond_true, Nat.testBit_or, Bool.or_eq_true, Nat.testBit_two_pow, decide_eq_true_eq] at h1
        rcases h1 with (h1 | h1) | h1
        · exact .inl h1
        · exact .inr ⟨e, by simp, hb, .inl h1⟩
        · exact .inr ⟨e, by simp, hb, .inr h1⟩
    · exact .inr ⟨e', by simp [he], hb, h1⟩

theorem masks_prefix : ∀ (l : List Oper) (acc : List Nat), ∃ t, masks l acc = acc ++ t ∧ t.length = l.length
  | [], acc => ⟨[], by simp [masks], rfl⟩
  | o :: r, acc => by
    obtain ⟨t, h1, h2⟩ := masks_prefix r (acc ++ [maskOf acc o.after.toList 0])
    exact ⟨maskOf acc o.after.toList 0 :: t, by simp [masks, h1], by simp [h2]⟩
theorem masks_spec {i : Nat} : ∀ (l : List Oper) (acc : List Nat) (k : Nat) (o : Oper), l[k]? = some o → ((masks l acc).getD (acc.length + k) 0).testBit i = true →
    ∃ e ∈ o.after, Region.binds .any e = true ∧ (e.on = i ∨ (e.on < acc.length + k ∧ ((masks l acc).getD e.on 0).testBit i = true))
  | [], _, _, _, h, _ => by simp at h
  | o :: r, acc, 0, o', h, hb => by
    simp only [List.getElem?_cons_zero, Option.some.injEq] at h
    subst h
    obtain ⟨t, h1, _⟩ := masks_prefix r (acc ++ [maskOf acc o.after.toList 0])
    have hm : masks (o :: r) acc = acc ++ (maskOf acc o.after.toList 0 :: t) := by simp [masks, h1]
    rw [hm] at hb ⊢
    rw [Nat.add_zero, List.getD_eq_getElem?_getD, List.getElem?_append_right (Nat.le_refl _)] at hb
    simp only [Nat.sub_self, List.getElem?_cons_zero, Option.getD_some] at hb
    rcases maskOf_spec hb with h0 | ⟨e, he, hbd, h0⟩
    · simp at h0
    · refine ⟨e, by simpa using he, hbd, ?_⟩
      rcases h0 with h0 | h0
      · exact .inl h0
      · rcases Nat.lt_or_ge e.on acc.length with hlt | hge
        · refine .inr ⟨by omega, ?_⟩
          rw [List.getD_eq_getElem?_getD, List.getElem?_append_left hlt, ← List.getD_eq_getElem?_getD]
          exact h0
        · rw [List.getD_eq_getElem?_getD, List.getElem?_eq_none hge] at h0
          simp at h0
  | o :: r, acc, k + 1, o', h, hb => by
    simp only [List.getElem?_cons_succ] at h
    have := masks_spec (i := i) r (acc ++ [maskOf acc o.after.toList 0]) k o' h (by
      simp only [masks] at hb
      rw [List.length_append]
      simpa [Nat.add_assoc, Nat.add_comm 1 k] using hb)
    simp only [masks]
    rw [List.length_append] at this
    simpa [Nat.add_assoc, Nat.add_comm 1 k] using this

def dirs (listed : Array Bool) (o : Oper) : Prop := ∀ e ∈ o.after, Region.binds .any e = true → listed.getD e.on false = true
def closedL (ops : List Oper) (listed : Array Bool) : Prop := ∀ k o, ops[k]? = some o → listed.getD k false = true → dirs listed o

theorem masks_closed {ops : List Oper} {listed : Array Bool} (hc : closedL ops listed) {i : Nat} : ∀ (k : Nat) (o : Oper), ops[k]? = some o → dirs listed o → ((masks ops []).getD k 0).testBit i = true → listed.getD i false = true := by
  intro k
  induction k using Nat.strongRecOn with
  | _ k ih =>
    intro o ho hd hb
    obtain ⟨e, he, hbd, h⟩ := masks_spec ops [] k o ho (by simpa using hb)
    rcases h with h | ⟨hlt, h⟩
    · rw [← h]; exact hd e he hbd
    · simp at hlt
      have hl := hd e he hbd
      obtain ⟨o', ho'⟩ : ∃ o', ops[e.on]? = some o' := by
        cases h' : ops[e.on]? with
        | some o' => exact ⟨o', rfl⟩
        | none =>
          have h1 := List.getElem?_eq_none_iff.1 h'
          have h2 := getElem?_lt ho
          omega
      exact ih e.on hlt o' ho' (hc e.on o' ho' hl) h

theorem backB_spec : ∀ {l : List Oper} {k : Nat}, backB l k = true → ∀ j o, l[j]? = some o → ∀ e ∈ o.after, Region.binds .any e = true → e.on < k + j
  | [], _, _, _, _, h, _, _, _ => by simp at h
  | o :: r, k, hb, 0, o', h, e, he, hbd => by
    simp only [List.getElem?_cons_zero, Option.some.injEq] at h
    subst h
    simp only [backB, Bool.and_eq_true, List.all_eq_true] at hb
    have := hb.1 e (by simpa using he)
    rw [hbd] at this
    simpa using this
  | o :: r, k, hb, j + 1, o', h, e, he, hbd => by
    simp only [List.getElem?_cons_succ] at h
    simp only [backB, Bool.and_eq_true] at hb
    have := backB_spec hb.2 j o' h e he hbd
    omega

/-- The numbers go up. -/
def ascB : List (Nat × Oper × Did) → Prop
  | [] => True
  | x :: r => (∀ y ∈ r, x.1 < y.1) ∧ ascB r

theorem ascB_remove : ∀ {L1 : List (Nat × Oper × Did)} {x : Nat × Oper × Did} {L2 : List (Nat × Oper × Did)}, ascB (L1 ++ x :: L2) → ascB (L1 ++ L2) ∧ (∀ z ∈ L1, z.1 < x.1) ∧ (∀ z ∈ L2, x.1 < z.1)
  | [], x, L2, h => ⟨h.2, fun z hz => (by cases hz), h.1⟩
  | y :: L1, x, L2, h => by
    obtain ⟨h1, h2, h3⟩ := ascB_remove h.2
    refine ⟨⟨fun z hz => h.1 z ?_, h1⟩, fun z hz => ?_, h3⟩
    · rcases List.mem_append.1 hz with hz | hz
      · simp [hz]
      · simp [hz]
    · rcases List.mem_cons.1 hz with rfl | hz
      · exact h.1 x (by simp)
      · exact h2 z hz
theorem freeB_remove {ops : Array Oper} {m : List Nat} : ∀ {L1 : List (Nat × Oper × Did)} {x : Nat × Oper × Did} {L2 : List (Nat × Oper × Did)}, freeB ops m (L1 ++ x :: L2) = true → freeB ops m (L1 ++ L2) = true ∧ (∀ z ∈ L1, pairB ops m z x = true)
  | [], x, L2, h => by
    simp only [List.nil_append, freeB, Bool.and_eq_true] at h
    exact ⟨h.2, fun z hz => by cases hz⟩
  | y :: L1, x, L2, h => by
    simp only [List.cons_append, freeB, Bool.and_eq_true, List.all_eq_true] at h
    obtain ⟨h1, h2⟩ := freeB_remove h.2
    refine ⟨?_, fun z hz => ?_⟩
    · simp only [List.cons_append, freeB, Bool.and_eq_true, List.all_eq_true]
      refine ⟨fun z hz => h.1 z ?_, h1⟩
      rcases List.mem_append.1 hz with hz | hz
      · simp [hz]
      · simp [hz]
    · rcases List.mem_cons.1 hz with rfl | hz
      · exact h.1 x (by simp)
      · exact h2 z hz

theorem wpAny_of_path {r : Option Nat} {ops : List Oper} {Q : Exit → Act → World → Prop} (hback : backB ops 0 = true) : ∀ (fuel : Nat) (L : List (Nat × Oper × Did)) (listed : Array Bool) (s e : AS) (E : Env) (a : Act) (W : World),
    L.length = fuel → listed.size = ops.length → (∀ i, i < ops.length → (listed.getD i false = true ↔ i ∉ L.map (·.1))) → (∀ x ∈ L, ops[x.1]? = some x.2.1) → closedL ops listed → ascB L →
    freeB ops.toArray (masks ops []) L = true → PathOk P ops s L e → StOk E s a W → (∀ E' a' W', StOk E' e a' W' → Trans E s.heap W E' e.heap W' → Q .normal a' W') →
    wpAnyIn (fen r) 0 P .any ops.toArray Q fuel listed a W := by
  intro fuel
  induction fuel with
  | zero =>
    intro L listed s e E a W hlen hsz hli hop hcl hasc hfree hp hs hq
    have : L = [] := List.eq_nil_of_length_eq_zero hlen
    subst this
    cases hp
    refine ⟨?_, hq E a W hs (Trans.refl _ _ _)⟩
    apply List.eq_nil_iff_forall_not_mem.2
    intro i hi
    obtain ⟨h1, o, ho, _⟩ := mem_ready.1 hi
    have hlt : i < ops.length := by
      have := (Array.getElem?_eq_some_iff.1 ho).1; simpa using this
    have := (hli i hlt).2 (by simp)
    have hs' : i < listed.size := by omega
    simp [hs'] at h1 this
    rw [h1] at this; cases this
  | succ fuel ih =>
    intro L listed s e E a W hlen hsz hli hop hcl hasc hfree hp hs hq
    have both : ∀ {i : Nat}, i < ops.length → listed.getD i true = listed.getD i false := fun {i} hi => by
      have : i < listed.size := by omega
      simp [this]
    refine ⟨fun hr => ?_, fun i hi => ?_⟩
    · -- something is ready: the first one
      exfalso
      match L, hlen with
      | (i, o, x) :: r, _ =>
        have hio := hop (i, o, x) (by simp)
        have hlt : i < ops.length := getElem?_lt hio
        have : i ∈ Region.ready .any ops.toArray listed := by
          refine mem_ready.2 ⟨?_, o, by simpa using hio, fun ed he hb => ?_⟩
          · rw [both hlt]
            cases hx : listed.getD i false with
            | false => rfl
            | true => exact absurd ((hli i hlt).1 hx) (by simp)
          · have hon := backB_spec hback i o hio ed he hb
            refine (hli ed.on (by omega)).2 fun hm => ?_
            simp only [List.map_cons, List.mem_cons] at hm
            rcases hm with hm | hm
            · omega
            · obtain ⟨y, hy, hye⟩ := List.mem_map.1 hm
              have := hasc.1 y hy
              omega
        rw [hr] at this; cases this
    · obtain ⟨h1, o, ho, hd⟩ := mem_ready.1 hi
      have hio : ops[i]? = some o := by simpa using ho
      have hlt : i < ops.length := getElem?_lt hio
      rw [both hlt] at h1
      have hmem : i ∈ L.map (·.1) := by
        apply Classical.byContradiction
        intro hn
        have := (hli i hlt).2 hn
        rw [h1] at this; cases this
      obtain ⟨y, hy, hyi⟩ := List.mem_map.1 hmem
      obtain ⟨L1, L2, rfl⟩ := List.append_of_mem hy
      obtain ⟨i', o', x⟩ := y
      simp only at hyi
      subst hyi
      have ho' : o' = o := by
        have := hop (i', o', x) (by simp)
        simp only at this
        rw [hio] at this
        injection this with this
        exact this.symm
      subst ho'
      obtain ⟨hasc', hl1, hl2⟩ := ascB_remove hasc
      obtain ⟨hfree', hpair⟩ := freeB_remove hfree
      have hcomm_ : ∀ z ∈ L1, z.2.1.apart ops.toArray o' = true ∧ hcomm z.2.2 x = true := fun z hz => by
        have := hpair z hz
        simp only [pairB, Bool.or_eq_true, Bool.and_eq_true] at this
        rcases this with h | h
        · exfalso
          have hlz : listed.getD z.1 false = true := masks_closed hcl i' o' hio hd h
          have hzlt : z.1 < ops.length := getElem?_lt (hop z (by simp [hz]))
          exact (hli z.1 hzlt).1 hlz (by
            simp only [List.map_append, List.mem_append]
            exact .inl (List.mem_map.2 ⟨z, hz, rfl⟩))
        · exact h
      obtain ⟨_, hx, hp'⟩ := PathOk.front hp hcomm_
      refine hx.wp hio hs fun E' a' W' hs' ht => ?_
      have getset : ∀ j, (listed.setIfInBounds i' true).getD j false = if j = i' then true else listed.getD j false := fun j => by
        have hlt' : i' < listed.size := by omega
        by_cases hj : j = i'
        · subst hj; simp [hlt']
        · rw [if_neg hj, Array.getD_eq_getD_getElem?, Array.getElem?_setIfInBounds_ne (Ne.symm hj), ← Array.getD_eq_getD_getElem?]
      refine ih (L1 ++ L2) (listed.setIfInBounds i' true) _ e E' a' W' (by simp at hlen ⊢; omega) (by simp [hsz]) (fun j hj => ?_) (fun y hy => hop y ?_) (fun k ok hk hlk ed he hb => ?_) hasc' hfree' hp' hs' (fun E'' a'' W'' hs'' ht' => hq E'' a'' W'' hs'' (ht.trans ht'))
      · rw [getset]
        by_cases hji : j = i'
        · subst hji
          rw [if_pos rfl]
          refine ⟨fun _ hm => ?_, fun _ => rfl⟩
          simp only [List.map_append, List.mem_append, List.mem_map] at hm
          rcases hm with ⟨y, hy, hyj⟩ | ⟨y, hy, hyj⟩
          · have := hl1 y hy; simp only at this; omega
          · have := hl2 y hy; simp only at this; omega
        · rw [if_neg hji, hli j hj]
          simp only [List.map_append, List.map_cons, List.mem_append, List.mem_cons, not_or]
          exact ⟨fun h => ⟨h.1, h.2.2⟩, fun h => ⟨h.1, hji, h.2⟩⟩
      · rcases List.mem_append.1 hy with hy | hy
        · simp [hy]
        · simp [hy]
      · rw [getset]
        split
        · rfl
        · rw [getset] at hlk
          split at hlk
          · rename_i hki
            subst hki
            rw [hio] at hk
            injection hk with hk
            subst hk
            exact hd ed he hb
          · exact hcl k ok hk hlk ed he hb

end
end Go.Eng

/- ENGINE, PART 8b: a region that draws its order and lays several variables. -/
namespace Go.Eng
open Go

/-- No block of ours, and no slot, names it. -/
structure NoM (n : Nat) (s : AS) : Prop where
  tmps : ∀ v ∈ s.tmps, noV n v = true
  heap : ∀ blk ∈ s.heap, noBlk n blk = true
  marks : ∀ b ∈ s.marks, b ≠ n

theorem marksOf_one {E : Env} {n k dl ln cp : Nat} {nl : Bool} {ba : Option Addr} : ∀ {l : List Nat}, (∀ b ∈ l, b ≠ n) → marksOf (E.one n k dl ln cp nl ba) l = marksOf E l
  | [], _ => rfl
  | b :: r, hl => by
    simp only [marksOf]
    rw [show (E.one n k dl ln cp nl ba).blk b = E.blk b from if_neg (hl b (by simp)), marksOf_one (fun x hx => hl x (by simp [hx]))]

/-- A block is laid under a number that nothing names. -/
theorem StOk.birth {E : Env} {s : AS} {a : Act} {W W' : World} (hs : StOk E s a W) {n n0 : Nat} (hn : NoM n s) (hlt : n < s.heap.length) (h0 : n0 ≤ n) (d : Option Tmp) {k dl ln cp : Nat} {nl : Bool} {ba : Option Addr} {blk : Blk} {v : V} {x : Value} (hW : Keeps W W')
    (hb : BlkOk (E.one n k dl ln cp nl ba) s.heap.length W' n blk) (hf : liveAt (E.one n k dl ln cp nl ba) n blk = true → W.heap.size ≤ k) (hv : VR (E.one n k dl ln cp nl ba) s.heap.length v x) :
    StOk (E.one n k dl ln cp nl ba) ⟨putV s.tmps d v, setB s.heap n blk, s.marks⟩ (a.put d x) W' ∧
    TransN n0 E s.heap W (E.one n k dl ln cp nl ba) (setB s.heap n blk) W' := by
  have e0 : (E.one n k dl ln cp nl ba).blk n = k := if_pos rfl
  have eb : ∀ {b}, b ≠ n → (E.one n k dl ln cp nl ba).blk b = E.blk b := fun hb => if_neg hb
  have cas : ∀ {b x}, (setB s.heap n blk)[b]? = some x → (b = n ∧ x = blk) ∨ (b ≠ n ∧ s.heap[b]? = some x) := fun {b x} hx => by
    rw [setB_eq] at hx
    by_cases e : b = n
    · subst e; rw [List.getElem?_set_self hlt] at hx; injection hx with hx; exact .inl ⟨rfl, hx.symm⟩
    · rw [List.getElem?_set_ne (Ne.symm e)] at hx; exact .inr ⟨e, hx⟩
  have hH : Holds (E.one n k dl ln cp nl ba) (setB s.heap n blk) W' := by
    refine ⟨fun b x hx => ?_, fun b1 b2 x1 x2 h1 h2 m1 l1 l2 he => ?_⟩
    · rw [setB_len]
      rcases cas hx with ⟨rfl, rfl⟩ | ⟨hne, hx⟩
      · exact hb
      · exact (hs.heap.ok b x hx).one hne (hn.heap x (List.mem_of_getElem? hx)) (fun o ho => by
          rw [hW.block _ (Array.getElem?_eq_some_iff.1 ho).1]; exact ho)
    · rcases cas h1 with ⟨e1, e2⟩ | ⟨n1, k1⟩ <;> rcases cas h2 with ⟨e3, e4⟩ | ⟨n2, k2⟩
      · rw [e1, e3]
      · subst e1; subst e2
        rw [liveAt_one n2] at l2
        have := (hs.heap.ok b2 x2 k2).lt l2
        have := hf l1
        rw [e0, eb n2] at he
        omega
      · subst e3; subst e4
        rw [liveAt_one n1] at l1
        have := (hs.heap.ok b1 x1 k1).lt l1
        have := hf l2
        rw [e0, eb n1] at he
        omega
      · rw [liveAt_one n1] at l1
        rw [liveAt_one n2] at l2
        rw [eb n1, eb n2] at he
        exact hs.heap.inj _ _ _ _ k1 k2 m1 l1 l2 he
  refine ⟨?_, ⟨⟨fun b hb => if_neg (by omega), fun b hb => if_neg (by omega), fun b hb => if_neg (by omega), fun b hb => if_neg (by omega), fun b hb => if_neg (by omega), fun b hb => if_neg (by omega)⟩, by rw [setB_len]; omega, fun z hm => ?_, fun z hz _ => hW.block z hz, hW.size, hW.os, hW.tape, hW.output⟩⟩
  · have hsl : ∀ (i : Nat) (v : V), s.tmps[i]? = some v → ∃ x, a.tmps[i]? = some x ∧ VR (E.one n k dl ln cp nl ba) s.heap.length v x := fun i v hi => by
      obtain ⟨x, hx, hv⟩ := hs.slots i v hi
      exact ⟨x, hx, hv.one (hn.tmps v (List.mem_of_getElem? hi))⟩
    have hdef : a.defers = marksOf (E.one n k dl ln cp nl ba) s.marks := by rw [marksOf_one hn.marks]; exact hs.defers
    have h1 : StOk (E.one n k dl ln cp nl ba) ⟨s.tmps, setB s.heap n blk, s.marks⟩ a W' :=
      ⟨hs.size, fun i v hi => by
        obtain ⟨x, hx, hv⟩ := hsl i v hi
        exact ⟨x, hx, by simp only [setB_len]; exact hv⟩, hdef, fun b hb => by simp only [setB_len]; exact hs.scope b hb, hH⟩
    exact h1.put (Agree.refl _ _) (Nat.le_refl _) hH d (by rw [setB_len]; exact hv)
  · obtain ⟨b, x, hx, h1, h2, h3⟩ := hm
    rcases cas hx with ⟨rfl, rfl⟩ | ⟨hne, hx⟩
    · rw [e0] at h3; exact .inr (by have := hf h2; omega)
    · rw [liveAt_one hne] at h2
      rw [eb hne] at h3
      exact .inl ⟨b, x, hx, h1, h2, h3⟩
end Go.Eng

/- ENGINE, PART 8c: a region that draws its order and lays several variables: any order of the tape. -/
namespace Go.Eng
open Go
section
variable {P : Program}

def peff (x : Did) : HEff := match x.eff with
  | .push n blk => .wr n blk
  | e => e
/-- The block has its number beforehand. -/
def pd (x : Did) : Did := ⟨x.v, x.rd, peff x, x.run⟩
def nextP (o : Oper) (s : AS) (x : Did) : AS := nextS o s (pd x)

structure BirthOk (P : Program) (ops : List Oper) (o : Oper) (s : AS) (x : Did) : Prop where
  guard : guardA ops o s.tmps = some true
  nd : ∀ c, o.op ≠ .defer c
  eff : ∃ n blk, x.eff = .push n blk ∧ OpBorn P o (evalV s.tmps) s.heap x.v x.rd n blk ∧ noBlk n blk = true
def isPush (x : Did) : Bool := match x.eff with
  | .push _ _ => true
  | _ => false
def GStep (P : Program) (ops : List Oper) (o : Oper) (s : AS) (x : Did) : Prop := (isPush x = true ∧ BirthOk P ops o s x) ∨ (isPush x = false ∧ StepOk P ops o s x)

theorem pd_self {x : Did} (h : isPush x = false) : pd x = x := by
  obtain ⟨v, rd, eff, run⟩ := x
  cases eff <;> first | rfl | (simp [isPush] at h)

theorem StepOk.same {ops : List Oper} {o : Oper} {s : AS} {x : Did} (hx : StepOk P ops o s x) : Same s.heap s.heap x.rd x.eff := by
  cases hr : x.run with
  | true => exact (hx.ran hr).2.2
  | false => obtain ⟨_, h2, h3⟩ := hx.idle hr; rw [h2, h3]; intro _ h; cases h
theorem GStep.same {ops : List Oper} {o : Oper} {s : AS} {x : Did} (hx : GStep P ops o s x) : Same s.heap s.heap (pd x).rd (pd x).eff := by
  rcases hx with ⟨_, h⟩ | ⟨hp, h⟩
  · obtain ⟨n, blk, h1, _⟩ := h.eff
    simp only [pd, peff, h1]
    exact ⟨fun _ _ => rfl, rfl⟩
  · rw [pd_self hp]; exact h.same

theorem StepOk.back {ops : List Oper} {o1 o2 : Oper} {x y : Did} {s : AS} (a1 : ∀ t, o1.dst = some t → t ∉ o2.looksAt ops.toArray) (hy : StepOk P ops o2 (nextS o1 s x) y) (q1 : Same s.heap s.heap y.rd y.eff)
    (q2 : ∀ h2, Same s.heap h2 y.rd y.eff → Same (x.eff.app s.heap) h2 y.rd y.eff) : StepOk P ops o2 s y := by
  have ey : ∀ z ∈ o2.op.operands, evalV s.tmps z = evalV (nextS o1 s x).tmps z := fun z hz => by
    simp only [nextS]
    exact (evalV_put fun t ht e => a1 t ht (by subst e; exact operands_looksAt hz)).symm
  refine ⟨?_, fun hr => ⟨(hy.ran hr).1, ?_, q1⟩, hy.idle, hy.born.congr ey (q2 _ q1).rds⟩
  · have := hy.guard
    simp only [nextS] at this
    rwa [guardA_put a1] at this
  · exact (hy.ran hr).2.1.congr ey q2
theorem StepOk.fwd {ops : List Oper} {o1 o2 : Oper} {x y : Did} {s : AS} (a3 : ∀ t, o2.dst = some t → t ∉ o1.looksAt ops.toArray) (hx : StepOk P ops o1 s x) (q3 : Same (y.eff.app s.heap) (y.eff.app s.heap) x.rd x.eff)
    (q4 : ∀ h2, Same (y.eff.app s.heap) h2 x.rd x.eff → Same s.heap h2 x.rd x.eff) : StepOk P ops o1 (nextS o2 s y) x := by
  have ex : ∀ z ∈ o1.op.operands, evalV (nextS o2 s y).tmps z = evalV s.tmps z := fun z hz => by
    simp only [nextS]
    exact evalV_put fun t ht e => a3 t ht (by subst e; exact operands_looksAt hz)
  refine ⟨?_, fun hr => ⟨(hx.ran hr).1, ?_, q3⟩, hx.idle, hx.born.congr ex (q4 _ q3).rds⟩
  · simp only [nextS]
    rw [guardA_put a3]; exact hx.guard
  · exact (hx.ran hr).2.1.congr ex q4

theorem g_swap {ops : List Oper} {o1 o2 : Oper} {x y : Did} {s : AS} (ha : o1.apart ops.toArray o2 = true) (hc : hcomm (pd x) (pd y) = true) (hx : GStep P ops o1 s x) (hy : GStep P ops o2 (nextP o1 s x) y) :
    GStep P ops o2 s y ∧ GStep P ops o1 (nextP o2 s y) x ∧ nextP o2 (nextP o1 s x) y = nextP o1 (nextP o2 s y) x := by
  obtain ⟨a1, a2, a3⟩ := Oper.apart_spec ha
  obtain ⟨q1, q2, q3, q4, q5⟩ := hcomm_swap hc hx.same hy.same
  refine ⟨?_, ?_, ?_⟩
  · rcases hy with ⟨hp, h⟩ | ⟨hp, h⟩
    · obtain ⟨n, blk, e1, e2, e3⟩ := h.eff
      refine .inl ⟨hp, ?_, h.nd, n, blk, e1, e2.congr (fun z hz => ?_) (fun b hb => ?_), e3⟩
      · have := h.guard
        simp only [nextP, nextS] at this
        rwa [guardA_put a1] at this
      · simp only [nextP, nextS]
        exact (evalV_put fun t ht e => a1 t ht (by subst e; exact operands_looksAt hz)).symm
      · exact (q2 _ q1).rds b hb
    · rw [pd_self hp] at q1 q2
      exact .inr ⟨hp, h.back a1 q1 q2⟩
  · rcases hx with ⟨hp, h⟩ | ⟨hp, h⟩
    · obtain ⟨n, blk, e1, e2, e3⟩ := h.eff
      refine .inl ⟨hp, ?_, h.nd, n, blk, e1, e2.congr (fun z hz => ?_) (fun b hb => ?_), e3⟩
      · simp only [nextP, nextS]
        rw [guardA_put a3]; exact h.guard
      · simp only [nextP, nextS]
        exact evalV_put fun t ht e => a3 t ht (by subst e; exact operands_looksAt hz)
      · exact (q4 _ q3).rds b hb
    · rw [pd_self hp] at q3 q4
      exact .inr ⟨hp, h.fwd a3 q3 q4⟩
  · simp only [nextP, nextS]
    rw [q5, putV_comm _ _ _ a2]

def GPath (P : Program) (ops : List Oper) : AS → List (Nat × Oper × Did) → AS → Prop
  | s, [], e => s = e
  | s, (i, o, x) :: L, e => ops[i]? = some o ∧ GStep P ops o s x ∧ GPath P ops (nextP o s x) L e
theorem GPath.front {ops : List Oper} {i : Nat} {o : Oper} {x : Did} {L2 : List (Nat × Oper × Did)} {e : AS} : ∀ {L1 : List (Nat × Oper × Did)} {s : AS}, GPath P ops s (L1 ++ (i, o, x) :: L2) e →
    (∀ z ∈ L1, z.2.1.apart ops.toArray o = true ∧ hcomm (pd z.2.2) (pd x) = true) → GPath P ops s ((i, o, x) :: (L1 ++ L2)) e
  | [], s, hp, _ => hp
  | (j, o1, y) :: L1, s, hp, hc => by
    obtain ⟨hj, hy, hp⟩ := hp
    obtain ⟨hi, hx, hp⟩ := GPath.front hp (fun z hz => hc z (by simp [hz]))
    obtain ⟨h1, h2⟩ := hc (j, o1, y) (by simp)
    obtain ⟨q1, q2, q3⟩ := g_swap h1 h2 hy hx
    exact ⟨hi, q1, hj, q2, by rw [← q3]; exact hp⟩

/-- What an operation did does not name the block. -/
def cleanB (n : Nat) (x : Did) : Bool := noV n x.v && (match x.eff with
  | .none => true
  | .wr b blk => !(Nat.beq b n) && noBlk n blk
  | .push b blk => !(Nat.beq b n) && noBlk n blk
  | _ => false)
theorem mem_putV {l : List V} {d : Option Tmp} {v u : V} (h : u ∈ putV l d v) : u ∈ l ∨ u = v := by
  cases d with
  | none => exact .inl h
  | some d => simp only [putV, setV_eq] at h; exact List.mem_or_eq_of_mem_set h
theorem NoM.next {n : Nat} {o : Oper} {s : AS} {x : Did} (hn : NoM n s) (hc : cleanB n x = true) : NoM n (nextP o s x) := by
  obtain ⟨v, rd, eff, run⟩ := x
  simp only [cleanB, Bool.and_eq_true] at hc
  obtain ⟨h1, h2⟩ := hc
  refine ⟨fun u hu => ?_, fun blk hb => ?_, hn.marks⟩
  · rcases mem_putV hu with h | h
    · exact hn.tmps u h
    · rw [h]; exact h1
  · cases eff with
    | none => exact hn.heap blk hb
    | wr b blk' =>
      simp only [Bool.and_eq_true] at h2
      simp only [nextP, nextS, pd, peff, HEff.app, setB_eq] at hb
      rcases List.mem_or_eq_of_mem_set hb with h | h
      · exact hn.heap blk h
      · rw [h]; exact h2.2
    | push b blk' =>
      simp only [Bool.and_eq_true] at h2
      simp only [nextP, nextS, pd, peff, HEff.app, setB_eq] at hb
      rcases List.mem_or_eq_of_mem_set hb with h | h
      · exact hn.heap blk h
      · rw [h]; exact h2.2
    | _ => cases h2

theorem GStep.wp {r : Option Nat} {ops : List Oper} {i : Nat} {o : Oper} {s : AS} {x : Did} (hi : ops[i]? = some o) (hx : GStep P ops o s x) {E : Env} {a : Act} {W : World} {n0 : Nat} (hs : StOk E s a W) (h0 : n0 ≤ s.heap.length)
    (hn : ∀ n blk, x.eff = .push n blk → NoM n s ∧ n < s.heap.length ∧ n0 ≤ n) {Q : Exit → Act → World → Prop} {Kn : Act → World → Prop}
    (hk : ∀ E' a' W', StOk E' (nextP o s x) a' W' → TransN n0 E s.heap W E' (nextP o s x).heap W' → s.heap.length ≤ (nextP o s x).heap.length → Kn a' W') : wpOpIn (fen r) 0 P ops.toArray Q i Kn a W := by
  rcases hx with ⟨hp, h⟩ | ⟨hp, h⟩
  · obtain ⟨n, blk, e1, e2, e3⟩ := h.eff
    obtain ⟨hm, hlt, hge⟩ := hn n _ e1
    unfold wpOpIn
    simp only [List.getElem?_toArray, hi]
    rw [guardA_real hs h.guard]
    simp only [if_true]
    refine e2 s.heap (fun _ _ => rfl) E a W hs.heap (fun z _ => hs.eval z) hlt e3 Kn Q (fun k dl ln cp nl ba val W' hW hb hf hv => ?_) h.nd r
    have hbirth := hs.birth hm hlt hge o.dst hW hb hf hv
    refine hk (E.one n k dl ln cp nl ba) _ _ ?_ ?_ (by simp only [nextP, nextS, pd, peff, e1, HEff.app, setB_len]; exact Nat.le_refl _)
    · have := hbirth.1
      simpa only [nextP, nextS, pd, peff, e1, HEff.app] using this
    · have := hbirth.2
      simpa only [nextP, nextS, pd, peff, e1, HEff.app] using this
  · refine h.wp hi hs fun E' a' W' hs' ht => ?_
    have hpd := pd_self hp
    exact hk E' a' W' (by rw [nextP, hpd]; exact hs') (by rw [nextP, hpd]; exact ht.to h0) (by rw [nextP, hpd]; exact ht.len)

def pairP (ops : Array Oper) (m : List Nat) (x y : Nat × Oper × Did) : Bool :=
  (match y.2.2.eff with
    | .push n _ => cleanB n x.2.2
    | _ => true) &&
  ((m.getD y.1 0).testBit x.1 || (x.2.1.apart ops y.2.1 && (hcomm (pd x.2.2) (pd y.2.2) && (match x.2.2.eff with
    | .push n _ => cleanB n y.2.2
    | _ => true))))
def freeP (ops : Array Oper) (m : List Nat) : List (Nat × Oper × Did) → Bool
  | [] => true
  | x :: r => r.all (pairP ops m x) && freeP ops m r
theorem freeP_remove {ops : Array Oper} {m : List Nat} : ∀ {L1 : List (Nat × Oper × Did)} {x : Nat × Oper × Did} {L2 : List (Nat × Oper × Did)}, freeP ops m (L1 ++ x :: L2) = true → freeP ops m (L1 ++ L2) = true ∧ (∀ z ∈ L1, pairP ops m z x = true) ∧ (∀ z ∈ L2, pairP ops m x z = true)
  | [], x, L2, h => by
    simp only [List.nil_append, freeP, Bool.and_eq_true, List.all_eq_true] at h
    exact ⟨h.2, fun z hz => (by cases hz), h.1⟩
  | y :: L1, x, L2, h => by
    simp only [List.cons_append, freeP, Bool.and_eq_true, List.all_eq_true] at h
    obtain ⟨h1, h2, h3⟩ := freeP_remove h.2
    refine ⟨?_, fun z hz => ?_, h3⟩
    · simp only [List.cons_append, freeP, Bool.and_eq_true, List.all_eq_true]
      refine ⟨fun z hz => h.1 z ?_, h1⟩
      rcases List.mem_append.1 hz with hz | hz
      · simp [hz]
      · simp [hz]
    · rcases List.mem_cons.1 hz with rfl | hz
      · exact h.1 x (by simp)
      · exact h2 z hz

theorem wpAny_of_gpath {r : Option Nat} {ops : List Oper} {n0 : Nat} {Q : Exit → Act → World → Prop} (hback : backB ops 0 = true) : ∀ (fuel : Nat) (L : List (Nat × Oper × Did)) (listed : Array Bool) (s e : AS) (E : Env) (a : Act) (W : World),
    L.length = fuel → listed.size = ops.length → (∀ i, i < ops.length → (listed.getD i false = true ↔ i ∉ L.map (·.1))) → (∀ x ∈ L, ops[x.1]? = some x.2.1) → closedL ops listed → ascB L →
    freeP ops.toArray (masks ops []) L = true → n0 ≤ s.heap.length → (∀ x ∈ L, ∀ n blk, x.2.2.eff = .push n blk → NoM n s ∧ n < s.heap.length ∧ n0 ≤ n) →
    GPath P ops s L e → StOk E s a W → (∀ E' a' W', StOk E' e a' W' → TransN n0 E s.heap W E' e.heap W' → Q .normal a' W') →
    wpAnyIn (fen r) 0 P .any ops.toArray Q fuel listed a W := by
  intro fuel
  induction fuel with
  | zero =>
    intro L listed s e E a W hlen hsz hli hop hcl hasc hfree h0 hnm hp hs hq
    have : L = [] := List.eq_nil_of_length_eq_zero hlen
    subst this
    cases hp
    refine ⟨?_, hq E a W hs ((Trans.refl _ _ _).to h0)⟩
    apply List.eq_nil_iff_forall_not_mem.2
    intro i hi
    obtain ⟨h1, o, ho, _⟩ := mem_ready.1 hi
    have hlt : i < ops.length := by
      have := (Array.getElem?_eq_some_iff.1 ho).1; simpa using this
    have := (hli i hlt).2 (by simp)
    have hs' : i < listed.size := by omega
    simp [hs'] at h1 this
    rw [h1] at this; cases this
  | succ fuel ih =>
    intro L listed s e E a W hlen hsz hli hop hcl hasc hfree h0 hnm hp hs hq
    have both : ∀ {i : Nat}, i < ops.length → listed.getD i true = listed.getD i false := fun {i} hi => by
      have : i < listed.size := by omega
      simp [this]
    refine ⟨fun hr => ?_, fun i hi => ?_⟩
    · -- something is ready: the first one
      exfalso
      match L, hlen with
      | (i, o, x) :: r, _ =>
        have hio := hop (i, o, x) (by simp)
        have hlt : i < ops.length := getElem?_lt hio
        have : i ∈ Region.ready .any ops.toArray listed := by
          refine mem_ready.2 ⟨?_, o, by simpa using hio, fun ed he hb => ?_⟩
          · rw [both hlt]
            cases hx : listed.getD i false with
            | false => rfl
            | true => exact absurd ((hli i hlt).1 hx) (by simp)
          · have hon := backB_spec hback i o hio ed he hb
            refine (hli ed.on (by omega)).2 fun hm => ?_
            simp only [List.map_cons, List.mem_cons] at hm
            rcases hm with hm | hm
            · omega
            · obtain ⟨y, hy, hye⟩ := List.mem_map.1 hm
              have := hasc.1 y hy
              omega
        rw [hr] at this; cases this
    · obtain ⟨h1, o, ho, hd⟩ := mem_ready.1 hi
      have hio : ops[i]? = some o := by simpa using ho
      have hlt : i < ops.length := getElem?_lt hio
      rw [both hlt] at h1
      have hmem : i ∈ L.map (·.1) := by
        apply Classical.byContradiction
        intro hn
        have := (hli i hlt).2 hn
        rw [h1] at this; cases this
      obtain ⟨y, hy, hyi⟩ := List.mem_map.1 hmem
      obtain ⟨L1, L2, rfl⟩ := List.append_of_mem hy
      obtain ⟨i', o', x⟩ := y
      simp only at hyi
      subst hyi
      have ho' : o' = o := by
        have := hop (i', o', x) (by simp)
        simp only at this
        rw [hio] at this
        injection this with this
        exact this.symm
      subst ho'
      obtain ⟨hasc', hl1, hl2⟩ := ascB_remove hasc
      obtain ⟨hfree', hpair, hpair2⟩ := freeP_remove hfree
      have unm : ∀ z ∈ L1, ((masks ops []).getD i' 0).testBit z.1 = true → False := fun z hz h => by
        have hlz : listed.getD z.1 false = true := masks_closed hcl i' o' hio hd h
        have hzlt : z.1 < ops.length := getElem?_lt (hop z (by simp [hz]))
        exact (hli z.1 hzlt).1 hlz (by
          simp only [List.map_append, List.mem_append]
          exact .inl (List.mem_map.2 ⟨z, hz, rfl⟩))
      have hcomm_ : ∀ z ∈ L1, z.2.1.apart ops.toArray o' = true ∧ hcomm (pd z.2.2) (pd x) = true := fun z hz => by
        have := hpair z hz
        simp only [pairP, Bool.and_eq_true, Bool.or_eq_true] at this
        rcases this.2 with h | h
        · exact (unm z hz h).elim
        · exact ⟨h.1, h.2.1⟩
      have hclean : ∀ z ∈ L1 ++ L2, ∀ n blk, z.2.2.eff = .push n blk → cleanB n x = true := fun z hz n blk hzp => by
        rcases List.mem_append.1 hz with hz | hz
        · have := hpair z hz
          simp only [pairP, Bool.and_eq_true, Bool.or_eq_true] at this
          rcases this.2 with h | h
          · exact (unm z hz h).elim
          · have := h.2.2
            rw [hzp] at this
            exact this
        · have := hpair2 z hz
          simp only [pairP, Bool.and_eq_true] at this
          have := this.1
          rw [hzp] at this
          exact this
      obtain ⟨_, hx, hp'⟩ := GPath.front hp hcomm_
      have hmem2 : ∀ {z}, z ∈ L1 ++ L2 → z ∈ L1 ++ (i', o', x) :: L2 := fun {z} hz => by
        rcases List.mem_append.1 hz with h | h
        · simp [h]
        · simp [h]
      refine hx.wp hio hs h0 (fun n blk he => hnm (i', o', x) (by simp) n blk he) fun E' a' W' hs' ht hlen' => ?_
      have getset : ∀ j, (listed.setIfInBounds i' true).getD j false = if j = i' then true else listed.getD j false := fun j => by
        have hlt' : i' < listed.size := by omega
        by_cases hj : j = i'
        · subst hj; simp [hlt']
        · rw [if_neg hj, Array.getD_eq_getD_getElem?, Array.getElem?_setIfInBounds_ne (Ne.symm hj), ← Array.getD_eq_getD_getElem?]
      refine ih (L1 ++ L2) (listed.setIfInBounds i' true) _ e E' a' W' (by simp at hlen ⊢; omega) (by simp [hsz]) (fun j hj => ?_) (fun y hy => hop y (hmem2 hy)) (fun k ok hk hlk ed he hb => ?_) hasc' hfree' (Nat.le_trans h0 hlen')
        (fun z hz n blk he => ?_) hp' hs' (fun E'' a'' W'' hs'' ht' => hq E'' a'' W'' hs'' (ht.trans ht'))
      · rw [getset]
        by_cases hji : j = i'
        · subst hji
          rw [if_pos rfl]
          refine ⟨fun _ hm => ?_, fun _ => rfl⟩
          simp only [List.map_append, List.mem_append, List.mem_map] at hm
          rcases hm with ⟨y, hy, hyj⟩ | ⟨y, hy, hyj⟩
          · have := hl1 y hy; simp only at this; omega
          · have := hl2 y hy; simp only at this; omega
        · rw [if_neg hji, hli j hj]
          simp only [List.map_append, List.map_cons, List.mem_append, List.mem_cons, not_or]
          exact ⟨fun h => ⟨h.1, h.2.2⟩, fun h => ⟨h.1, hji, h.2⟩⟩
      · rw [getset]
        split
        · rfl
        · rw [getset] at hlk
          split at hlk
          · rename_i hki
            subst hki
            rw [hio] at hk
            injection hk with hk
            subst hk
            exact hd ed he hb
          · exact hcl k ok hk hlk ed he hb
      · obtain ⟨q1, q2, q3⟩ := hnm z (hmem2 hz) n blk he
        exact ⟨q1.next (hclean z hz n blk he), Nat.lt_of_lt_of_le q2 hlen', q3⟩

/-! ### the blocks' numbers beforehand -/
def noPush : List (Nat × Oper × Did) → Bool
  | [] => true
  | x :: r => !(isPush x.2.2) && noPush r
def pushes : List (Nat × Oper × Did) → Nat
  | [] => 0
  | x :: r => (bif isPush x.2.2 then 1 else 0) + pushes r
theorem pushes_no : ∀ {L : List (Nat × Oper × Did)}, noPush L = true → pushes L = 0
  | [], _ => rfl
  | x :: r, h => by
    simp only [noPush, Bool.and_eq_true, Bool.not_eq_true'] at h
    simp only [pushes, h.1, cond_false, pushes_no h.2]
theorem noPush_mem : ∀ {L : List (Nat × Oper × Did)}, noPush L = true → ∀ x ∈ L, isPush x.2.2 = false
  | [], _, x, hx => by cases hx
  | y :: r, h, x, hx => by
    simp only [noPush, Bool.and_eq_true, Bool.not_eq_true'] at h
    rcases List.mem_cons.1 hx with rfl | hx
    · exact h.1
    · exact noPush_mem h.2 x hx
def chkP : List (Nat × Oper × Did) → Nat → Bool
  | [], _ => true
  | x :: r, n => match x.2.2.eff with
    | .none => x.2.2.rd.all (Nat.blt · n) && chkP r n
    | .wr b _ => Nat.blt b n && (x.2.2.rd.all (Nat.blt · n) && chkP r n)
    | .push b blk => x.2.2.run && (isBorn x.2.1 && (noBlk b blk && (x.2.2.rd.all (Nat.blt · n) && chkP r (n + 1))))
    | .all h' => noPush r && chkP r h'.length
    | _ => false
def padS (k : Nat) (s : AS) : AS := ⟨s.tmps, s.heap ++ List.replicate k .dead, s.marks⟩
end
end Go.Eng

/- ENGINE, PART 8d: from the text's order to the blocks' numbers beforehand. -/
namespace Go.Eng
open Go
section
variable {P : Program}

theorem setB_app (h r : List Blk) {b : Nat} (x : Blk) (hb : b < h.length) : setB (h ++ r) b x = setB h b x ++ r := by
  simp only [setB_eq]; rw [List.set_append_left _ _ hb]
theorem get_app {h r : List Blk} {b : Nat} (hb : b < h.length) : (h ++ r)[b]? = h[b]? := List.getElem?_append_left hb

theorem StepOk.pad {ops : List Oper} {o : Oper} {s : AS} {x : Did} {k : Nat} (hx : StepOk P ops o s x) (hrd : ∀ b ∈ x.rd, b < s.heap.length) (hs : ∀ h2, Same (padS k s).heap h2 x.rd x.eff → Same s.heap h2 x.rd x.eff) (hss : Same (padS k s).heap (padS k s).heap x.rd x.eff) :
    StepOk P ops o (padS k s) x :=
  ⟨hx.guard, fun hr => ⟨(hx.ran hr).1, (hx.ran hr).2.1.congr (fun _ _ => rfl) hs, hss⟩, hx.idle, hx.born.congr (fun _ _ => rfl) fun b hb => get_app (hrd b hb)⟩

theorem gpath_of {ops : List Oper} : ∀ {L : List (Nat × Oper × Did)} {s e : AS}, PathOk P ops s L e → chkP L s.heap.length = true →
    ∃ k, k = pushes L ∧ GPath P ops (padS k s) L e ∧ (∀ x ∈ L, ∀ n blk, x.2.2.eff = .push n blk → s.heap.length ≤ n ∧ n < s.heap.length + k)
  | [], s, e, hp, _ => by
    cases hp
    exact ⟨0, rfl, by simp [GPath, padS], fun x hx => (by cases hx)⟩
  | (i, o, x) :: L, s, e, hp, hc => by
    obtain ⟨hi, hx, hp⟩ := hp
    obtain ⟨v, rd, eff, run⟩ := x
    have allLt : ∀ {l : List Nat} {n : Nat}, l.all (Nat.blt · n) = true → ∀ z ∈ l, z < n := fun {l n} hl z hz => by
      have := List.all_eq_true.1 hl z hz; simpa using this
    cases eff with
    | none =>
      simp only [chkP, Bool.and_eq_true] at hc
      have hlt := allLt hc.1
      obtain ⟨k, h1, h2, h4⟩ := gpath_of hp hc.2
      refine ⟨k, by rw [h1]; simp [pushes, isPush], ⟨hi, .inr ⟨rfl, hx.pad hlt (fun h2 hs z hz => ?_) (fun _ _ => rfl)⟩, h2⟩, fun y hy n blk he => ?_⟩
      · exact (hs z hz).trans (get_app (hlt z hz))
      · rcases List.mem_cons.1 hy with rfl | hy
        · cases he
        · exact h4 y hy n blk he
    | wr b blk =>
      simp only [chkP, Bool.and_eq_true] at hc
      have hb : b < s.heap.length := by simpa using hc.1
      have hlt := allLt hc.2.1
      have hl : (nextS o s ⟨v, rd, .wr b blk, run⟩).heap.length = s.heap.length := by simp [nextS, HEff.app, setB_len]
      obtain ⟨k, h1, h2, h4⟩ := gpath_of hp (by rw [hl]; exact hc.2.2)
      rw [hl] at h4
      refine ⟨k, by rw [h1]; simp [pushes, isPush], ⟨hi, .inr ⟨rfl, hx.pad hlt (fun h2 hs => ⟨fun z hz => (hs.1 z hz).trans (get_app (hlt z hz)), hs.2.trans (get_app hb)⟩) ⟨fun _ _ => rfl, rfl⟩⟩, ?_⟩, fun y hy n blk' he => ?_⟩
      · have : nextP o (padS k s) ⟨v, rd, .wr b blk, run⟩ = padS k (nextS o s ⟨v, rd, .wr b blk, run⟩) := by
          simp only [nextP, pd, peff, nextS, padS, HEff.app]; rw [setB_app _ _ _ hb]
        rw [this]; exact h2
      · rcases List.mem_cons.1 hy with rfl | hy
        · cases he
        · exact h4 y hy n blk' he
    | push n blk =>
      simp only [chkP, Bool.and_eq_true] at hc
      obtain ⟨hr, ha, hcl, hrd, hc⟩ := hc
      have hr : run = true := hr
      subst hr
      have hn : s.heap.length = n := ((hx.ran rfl).2.2).2
      subst hn
      have hl : (nextS o s ⟨v, rd, .push s.heap.length blk, true⟩).heap.length = s.heap.length + 1 := by simp [nextS, HEff.app]
      obtain ⟨k, h1, h2, h4⟩ := gpath_of hp (by rw [hl]; exact hc)
      rw [hl] at h4
      refine ⟨k + 1, by rw [h1]; simp [pushes, isPush]; omega, ⟨hi, .inl ⟨rfl, hx.guard, (hx.ran rfl).1, _, _, rfl, (hx.born ha rfl _ _ rfl).congr (fun _ _ => rfl) (fun b hb => get_app (allLt hrd b hb)), hcl⟩, ?_⟩, fun y hy n blk' he => ?_⟩
      · have : nextP o (padS (k + 1) s) ⟨v, rd, .push s.heap.length blk, true⟩ = padS k (nextS o s ⟨v, rd, .push s.heap.length blk, true⟩) := by
          simp only [nextP, pd, peff, nextS, padS, HEff.app, setB_eq]
          rw [List.set_append_right _ _ (Nat.le_refl _)]
          simp [List.replicate_succ]
        rw [this]; exact h2
      · rcases List.mem_cons.1 hy with rfl | hy
        · simp only [HEff.push.injEq] at he
          omega
        · have := h4 y hy n blk' he
          omega
    | kpush b n blk => simp [chkP] at hc
    | all h' =>
      simp only [chkP, Bool.and_eq_true] at hc
      obtain ⟨k, h1, h2, h4⟩ := gpath_of hp hc.2
      rw [pushes_no hc.1] at h1
      subst h1
      have e0 : ∀ q : AS, padS 0 q = q := fun q => by simp [padS]
      refine ⟨0, by simp [pushes, isPush, pushes_no hc.1], ⟨hi, .inr ⟨rfl, by rw [e0]; exact hx⟩, ?_⟩, fun y hy n blk' he => ?_⟩
      · rw [e0] at h2 ⊢
        exact h2
      · rcases List.mem_cons.1 hy with rfl | hy
        · cases he
        · have := noPush_mem hc.1 y hy
          simp [isPush, he] at this

theorem StOk.padS {E : Env} {s : AS} {a : Act} {W : World} (hs : StOk E s a W) (k : Nat) : StOk E (padS k s) a W := by
  have cas : ∀ {b x}, (s.heap ++ List.replicate k Blk.dead)[b]? = some x → x = Blk.dead ∨ s.heap[b]? = some x := fun {b x} hx => by
    rcases Nat.lt_or_ge b s.heap.length with h | h
    · rw [List.getElem?_append_left h] at hx; exact .inr hx
    · rw [List.getElem?_append_right h] at hx
      exact .inl (List.eq_of_mem_replicate (List.mem_of_getElem? hx))
  have hlen : s.heap.length ≤ (s.heap ++ List.replicate k Blk.dead).length := by simp
  refine ⟨hs.size, fun i v hi => ?_, hs.defers, fun b hb => Nat.lt_of_lt_of_le (hs.scope b hb) hlen, ⟨fun b x hx => ?_, fun b1 b2 x1 x2 h1 h2 m1 l1 l2 he => ?_⟩⟩
  · obtain ⟨x, hx, hv⟩ := hs.slots i v hi
    exact ⟨x, hx, hv.mono (Agree.refl _ _) hlen⟩
  · rcases cas hx with rfl | hx
    · trivial
    · exact (hs.heap.ok b x hx).frame (getElem?_lt hx) (Agree.refl _ _) hlen (fun o ho => ho)
  · rcases cas h1 with rfl | k1
    · simp [Blk.mine] at m1
    · rcases cas h2 with rfl | k2
      · simp [liveAt] at l2
      · exact hs.heap.inj _ _ _ _ k1 k2 m1 l1 l2 he
theorem StOk.noM {E : Env} {s : AS} {a : Act} {W : World} (hs : StOk E s a W) (k : Nat) {n : Nat} (hn : s.heap.length ≤ n) : NoM n (Eng.padS k s) := by
  refine ⟨fun v hv => ?_, fun blk hb => ?_, fun b hb => by have := hs.scope b hb; omega⟩
  · obtain ⟨i, hi⟩ := List.getElem?_of_mem hv
    obtain ⟨x, _, hr⟩ := hs.slots i v hi
    exact noV_of_VR hr hn
  · simp only [Eng.padS] at hb
    rcases List.mem_append.1 hb with hb | hb
    · obtain ⟨i, hi⟩ := List.getElem?_of_mem hb
      exact noBlk_of_ok (hs.heap.ok i blk hi) hn
    · rw [List.eq_of_mem_replicate hb]; rfl
theorem Mine.pad {E : Env} {h : List Blk} {k j : Nat} (hm : Mine E (h ++ List.replicate k .dead) j) : Mine E h j := by
  obtain ⟨b, x, hx, h1, h2, h3⟩ := hm
  rcases Nat.lt_or_ge b h.length with hlt | hge
  · rw [List.getElem?_append_left hlt] at hx; exact ⟨b, x, hx, h1, h2, h3⟩
  · rw [List.getElem?_append_right hge] at hx
    rw [List.eq_of_mem_replicate (List.mem_of_getElem? hx)] at h1
    simp [Blk.mine] at h1
theorem Mine.topad {E : Env} {h : List Blk} {k j : Nat} (hm : Mine E h j) : Mine E (h ++ List.replicate k .dead) j := by
  obtain ⟨b, x, hx, h1, h2, h3⟩ := hm
  exact ⟨b, x, by rw [List.getElem?_append_left (getElem?_lt hx)]; exact hx, h1, h2, h3⟩

theorem wpAny_of_births {r : Option Nat} {ops : List Oper} {n0 : Nat} {Q : Exit → Act → World → Prop} (hback : backB ops 0 = true) (L : List (Nat × Oper × Did)) (listed : Array Bool) (s e : AS) (E : Env) (a : Act) (W : World)
    (hsz : listed.size = ops.length) (hli : ∀ i, i < ops.length → (listed.getD i false = true ↔ i ∉ L.map (·.1))) (hop : ∀ x ∈ L, ops[x.1]? = some x.2.1) (hcl : closedL ops listed) (hasc : ascB L)
    (hfree : freeP ops.toArray (masks ops []) L = true) (hchk : chkP L s.heap.length = true) (h0 : n0 ≤ s.heap.length) (hp : PathOk P ops s L e) (hs : StOk E s a W)
    (hq : ∀ E' a' W', StOk E' e a' W' → TransN n0 E s.heap W E' e.heap W' → Q .normal a' W') : wpAnyIn (fen r) 0 P .any ops.toArray Q L.length listed a W := by
  obtain ⟨k, h1, h2, h4⟩ := gpath_of hp hchk
  have hlen : (padS k s).heap.length = s.heap.length + k := by simp [padS]
  refine wpAny_of_gpath (n0 := s.heap.length) hback L.length L listed (padS k s) e E a W rfl hsz hli hop hcl hasc hfree (by rw [hlen]; omega) (fun x hx n blk he => ?_) h2 (hs.padS k) (fun E' a' W' hs' ht => ?_)
  · obtain ⟨q1, q2⟩ := h4 x hx n blk he
    exact ⟨hs.noM k q1, by rw [hlen]; exact q2, q1⟩
  · refine hq E' a' W' hs' ⟨ht.agree.mono h0, Nat.le_trans h0 ht.len, fun j hj => ?_, fun j hj hn => ht.frame j hj fun hm => hn hm.pad, ht.size, ht.os, ht.tape, ht.output⟩
    rcases ht.mine j hj with h | h
    · exact .inl h.pad
    · exact .inr h
end
end Go.Eng

/- ENGINE, PART 8b: ranges over functions. -/
namespace Go.Eng
open Go

abbrev KC (R : Type) := XE → AS → Option R

/-- The round that a piece of code stands in. -/
def RdOk (E : Env) (n : Nat) (r : Option Nat) : Option Nat → Prop
  | none => r = none
  | some b => b < n ∧ r = some (E.blk b)
theorem RdOk.agree {E E' : Env} {n m : Nat} {r rd : Option Nat} (h : RdOk E n r rd) (hE : Agree n E E') (hm : n ≤ m) : RdOk E' m r rd := by
  cases rd with
  | none => exact h
  | some b => exact ⟨Nat.lt_of_lt_of_le h.1 hm, by rw [hE.blk b h.1]; exact h.2⟩
def SimC (P : Program) (n : Nat) (rd : Option Nat) (c : Code) (s : AS) (e : XE) (s' : AS) : Prop :=
  ∀ r E a W, StOk E s a W → RdOk E n r rd → n ≤ s.heap.length → c.wpIn (fen r) 0 P (fun e' a' W' => e' = e.toExit ∧ ∃ E', StOk E' s' a' W' ∧ TransN n E s.heap W E' s'.heap W') a W

/-- A block of ours is written a last time. -/
theorem Holds.retire {E : Env} {h : List Blk} {W : World} (hh : Holds E h W) {b : Nat} {blk : Blk} (hb : h[b]? = some blk) (hm : blk.mine = true) (hl : liveAt E b blk = true) (o : Obj) :
    Holds E (setB h b .dead) (World.putObj W (E.blk b) o) ∧ Trans E h W E (setB h b .dead) (World.putObj W (E.blk b) o) := by
  have hlt := getElem?_lt hb
  have cas : ∀ {b' x}, (setB h b .dead)[b']? = some x → (b' = b ∧ x = .dead) ∨ (b' ≠ b ∧ h[b']? = some x) := fun {b' x} hx => by
    rw [setB_eq] at hx
    by_cases e : b' = b
    · subst e; rw [List.getElem?_set_self hlt] at hx; injection hx with hx; exact .inl ⟨rfl, hx.symm⟩
    · rw [List.getElem?_set_ne (Ne.symm e)] at hx; exact .inr ⟨e, hx⟩
  have hlen : (setB h b .dead).length = h.length := by rw [setB_eq]; simp
  refine ⟨⟨fun b' x hx => ?_, fun b1 b2 x1 x2 h1 h2 m1 l1 l2 he => ?_⟩, ⟨Agree.refl _ _, by rw [hlen]; exact Nat.le_refl _, fun k hk => .inl ?_, fun k hk hn => ?_, by simp [World.putObj], rfl, rfl, rfl⟩⟩
  · rw [hlen]
    rcases cas hx with ⟨rfl, rfl⟩ | ⟨hne, hx⟩
    · trivial
    · cases hlx : liveAt E b' x with
      | false => exact (hh.ok b' x hx).absent (getElem?_lt hx) (Agree.refl _ _) (Nat.le_refl _) hlx
      | true =>
        have hd : E.blk b ≠ E.blk b' := fun he => hne (hh.inj b b' blk x hb hx hm hl hlx he).symm
        exact (hh.ok b' x hx).frame (getElem?_lt hx) (Agree.refl _ _) (Nat.le_refl _) (fun o ho => by rw [putObj_get hd]; exact ho)
  · rcases cas h1 with ⟨e1, e2⟩ | ⟨n1, k1⟩
    · subst e2; simp [Blk.mine] at m1
    · rcases cas h2 with ⟨e3, e4⟩ | ⟨n2, k2⟩
      · subst e4; simp [liveAt] at l2
      · exact hh.inj _ _ _ _ k1 k2 m1 l1 l2 he
  · obtain ⟨b', x, hx, h1, h2, h3⟩ := hk
    rcases cas hx with ⟨rfl, rfl⟩ | ⟨_, hx⟩
    · simp [Blk.mine] at h1
    · exact ⟨b', x, hx, h1, h2, h3⟩
  · have hd : E.blk b ≠ k := fun he => hn ⟨b, blk, hb, hm, hl, he⟩
    exact putObj_get hd

section
variable {R : Type} {P : Program} {C : Oracle}

/-- The call of the function, and what follows. -/
def rangeGo (C : Oracle) (gf : FuncId) (caps : List V) (l : Nat) (h : List Blk) (tmps : List V) (marks : List Nat) (k : KC R) : Option R :=
  match noTop caps with
  | true => C R (.fn gf) (.yield l :: caps) h (fun _ _ eff => match getB (eff.app h) l with
    | .loopB st _ _ _ _ _ _ => match st with
      | .ready => k .normal ⟨tmps, setB (eff.app h) l .dead, marks⟩
      | .done e => k e ⟨tmps, setB (eff.app h) l .dead, marks⟩
      | .busy => none
    | _ => none)
  | false => none
def rangeIn (C : Oracle) (rd : Option Nat) (me : FuncId) (g : Operand) (ps : Array Tmp) (assign body : Code) (s : AS) (k : KC R) : Option R :=
  match evalV s.tmps g with
  | .func gf caps => match rd with
    | none => rangeGo C gf caps (s.heap.length + 1) (s.heap ++ [.defs] ++ [.loopB .ready me s.tmps ps.toList assign body s.heap.length]) s.tmps (s.heap.length :: s.marks) k
    | some b0 => match getB s.heap b0 with
      | .loopB _ _ _ _ _ _ d => rangeGo C gf caps s.heap.length (s.heap ++ [.loopB .ready me s.tmps ps.toList assign body d]) s.tmps s.marks k
      | _ => none
  | _ => none

theorem wpIn_code {r : Option Nat} (e : XE) {Q : Exit → Act → World → Prop} {a : Act} {W : World} (h : Q e.toExit a W) : e.code.wpIn (fen r) 0 P Q a W := by
  cases e with
  | normal => exact wpIn_skip h
  | exit id => exact wpIn_exit h
  | ret => exact wpIn_ret h

/-- What follows the call. -/
theorem rangeGo_ok (hC : OracleOk P C) {gf : FuncId} {caps : List V} {l : Nat} {h : List Blk} {tmps : List V} {marks : List Nat} {k : KC R} {r : R} (hl : l < h.length) (hr : rangeGo C gf caps l h tmps marks k = some r) :
    ∃ e h', k e ⟨tmps, h', marks⟩ = some r ∧ Enterable P gf ∧ noTop caps = true ∧ ∀ (ro : Option Nat) E W (a : Act) (Q : Exit → Act → World → Prop), Holds E h W → inSs h.length caps = true →
      (∀ E' W', Holds E' h' W' → Trans E h W E' h' W' → Q e.toExit a W') →
      Calls P gf (concs E (.yield l :: caps)).toArray W (rangePost (fen ro) 0 P (E.blk l) Q a) := by
  unfold rangeGo at hr
  split at hr
  · rename_i hnt
    obtain ⟨v, rd, eff, hk, hs, he, H, _⟩ := hC R _ _ _ _ _ hr
    have hf : FnOK P gf (.yield l :: caps) h v (eff.app h) := H h hs
    have main : ∀ {st : LSt} {me : FuncId} {tm : List V} {ps : List Tmp} {asg bd : Code} {d : Nat} {e : XE}, getB (eff.app h) l = .loopB st me tm ps asg bd d → ((st = .ready ∧ e = .normal) ∨ st = .done e) → ∀ (ro : Option Nat) E W (a : Act) (Q : Exit → Act → World → Prop), Holds E h W → inSs h.length caps = true →
      (∀ E' W', Holds E' (setB (eff.app h) l .dead) W' → Trans E h W E' (setB (eff.app h) l .dead) W' → Q e.toExit a W') →
      Calls P gf (concs E (.yield l :: caps)).toArray W (rangePost (fen ro) 0 P (E.blk l) Q a) := by
      intro st me tm ps asg bd d e hst hcase ro E W a Q hh hin hQ
      have hb := getB_some hst (by simp)
      refine (hf E W hh (by simp only [inSs, inS, Bool.and_eq_true]; exact ⟨by simpa using hl, hin⟩)).mono ?_
      rintro en W' ⟨x, E', rfl, hx, hh', ht⟩
      have hok := hh'.ok l _ hb
      obtain ⟨_, fn, vs, _, hc⟩ := hok
      rw [← ht.agree.blk l hl]
      obtain ⟨q1, q2⟩ := hh'.retire hb rfl rfl (.loop { state := .exhausted, pending := st.pending, fn, tmps := vs, params := ps.toArray, assign := asg, body := bd, defers := E'.blk d })
      refine ⟨_, _, run_endLoop hc (by rcases hcase with ⟨rfl, _⟩ | rfl <;> simp [LSt.state]), ?_⟩
      rcases hcase with ⟨rfl, rfl⟩ | rfl
      · exact hQ E' _ q1 (ht.trans q2)
      · exact wpIn_code e (hQ E' _ q1 (ht.trans q2))
    split at hk
    · rename_i st me tm ps asg bd d hst
      split at hk
      · exact ⟨_, _, hk, he, hnt, main hst (.inl ⟨rfl, rfl⟩)⟩
      · exact ⟨_, _, hk, he, hnt, main hst (.inr rfl)⟩
      · cases hk
    · cases hk
  · cases hr

theorem StOk.newLoop {E E1 : Env} {s : AS} {a : Act} {W W1 : World} {h1 : List Blk} (hs : StOk E s a W) (hE : Agree s.heap.length E E1) (hl : s.heap.length ≤ h1.length) (hh : Holds E1 h1 W1) (me fn : FuncId) (ps : Array Tmp) (assign body : Code) (d : Nat) (hd : d < h1.length) :
    Holds (E1.put h1.length W1.heap.size 0 0 false) (h1 ++ [.loopB .ready me s.tmps ps.toList assign body d]) (W1.alloc (.loop { state := .ready, pending := none, fn, tmps := a.tmps, params := ps, assign, body, defers := E1.blk d })) ∧
    Trans E1 h1 W1 (E1.put h1.length W1.heap.size 0 0 false) (h1 ++ [.loopB .ready me s.tmps ps.toList assign body d]) (W1.alloc (.loop { state := .ready, pending := none, fn, tmps := a.tmps, params := ps, assign, body, defers := E1.blk d })) := by
  have hE1 := Agree.put E1 h1.length W1.heap.size 0 0 false
  refine hh.newBlk _ 0 0 _ ⟨by omega, fn, a.tmps, ⟨hs.size, fun i v hi => ?_⟩, ?_⟩
  · obtain ⟨x, hx, hr⟩ := hs.slots i v hi
    exact ⟨x, hx, (hr.mono hE hl).mono hE1 (Nat.le_succ _)⟩
  · have e0 : (E1.put h1.length W1.heap.size 0 0 false).blk h1.length = W1.heap.size := if_pos rfl
    rw [e0, hE1.blk d hd]
    simp only [Array.toArray_toList]
    exact World.alloc_heap_new _ _

theorem range_ok (hC : OracleOk P C) {n : Nat} {rd : Option Nat} {me : FuncId} {g : Operand} {ps : Array Tmp} {assign body : Code} {s : AS} {k : KC R} {r : R} (hr : rangeIn C rd me g ps assign body s k = some r) :
    ∃ e s', k e s' = some r ∧ SimC P n rd (.rangeFunc g ps assign body) s e s' := by
  unfold rangeIn at hr
  split at hr
  · rename_i gf caps hg
    -- the call
    have call : ∀ {E E1 : Env} {a : Act} {W W1 : World} {l n1 : Nat}, StOk E s a W → Agree s.heap.length E E1 → s.heap.length ≤ n1 → Enterable P gf →
        inSs n1 caps = true ∧ ∀ L, E1.blk l = L → (resolve a.eval (rangeCall g L) 0).run P W1 = .ok { target := .fn (.func gf) (concs E1 caps).toArray, args := #[.func (.yield L) #[] #[]] } W1 ∧
          (invoke (.fn (.func gf) (concs E1 caps).toArray) #[.func (.yield L) #[] #[]]).run P W1 = .ok (.enter gf (concs E1 (.yield l :: caps)).toArray) W1 := by
      intro E E1 a W W1 l n1 hs hE hn1 ⟨fn, hfn, hname, hbody⟩
      have h0 := hs.eval g
      rw [hg] at h0
      obtain ⟨e1, e2⟩ := (h0.mono hE hn1).val (by simp)
      refine ⟨by simpa [inS] using e2, fun L hL => ⟨?_, ?_⟩⟩
      · simp only [resolve, e1, conc, Deferred.ofValue, Sem.run_pure]
        simp [Act.eval]
      · simp only [invoke, callFunc, run_program, Sem.run_bind, Result.andThen_ok, hfn]
        rw [if_neg (by rw [hname]; simp), if_neg (by rw [hbody]; simp)]
        simp only [Sem.run_pure, concs, conc, hL]
        simp
    split at hr
    · obtain ⟨e, h', hk, hent, hnt, H⟩ := rangeGo_ok hC (by simp) hr
      refine ⟨e, _, hk, fun ro E a W hs hro hn => wpIn_rangeFunc fun fn _ => ?_⟩
      have hro : ro = none := hro
      subst hro
      have e0 : (E.put s.heap.length W.heap.size 0 0 false).blk s.heap.length = W.heap.size := if_pos rfl
      obtain ⟨q1, q2⟩ := hs.heap.newBlk (.deferred (some [])) 0 0 .defs (by
        unfold BlkOk
        rw [e0]; exact World.alloc_heap_new _ _)
      obtain ⟨q3, q4⟩ := hs.newLoop q2.agree q2.len q1 me fn ps assign body s.heap.length (by simp)
      rw [e0] at q3 q4
      have hlen : (s.heap ++ [Blk.defs]).length = s.heap.length + 1 := by simp
      have q5 := q2.trans q4
      obtain ⟨c1, c2⟩ := call (l := s.heap.length + 1) (W1 := (W.alloc (.deferred (some []))).alloc (.loop { state := .ready, pending := none, fn, tmps := a.tmps, params := ps, assign, body, defers := W.heap.size })) hs q5.agree q5.len hent
      have hblk : ((E.put s.heap.length W.heap.size 0 0 false).put (s.heap ++ [Blk.defs]).length (W.alloc (.deferred (some []))).heap.size 0 0 false).blk (s.heap.length + 1) = W.heap.size + 1 := by
        rw [← hlen]; simp [Env.put]
      obtain ⟨c3, c4⟩ := c2 _ hblk
      refine ⟨_, _, _, _, _, gf, _, _, run_enterLoop_outer _ _ _ _ _, c3, fun _ _ => trivial, c4, fun hx => by simp [fen] at hx, ?_⟩
      rw [← hblk]
      refine callsIn_wide.2 (H none _ _ _ _ q3 c1 fun E' W' hh' ht' => ⟨rfl, E', ⟨hs.size, fun i v hi => ?_, ?_, ?_, hh'⟩, (q5.trans ht').to hn⟩)
      · obtain ⟨x, hx, hr⟩ := hs.slots i v hi
        exact ⟨x, hx, hr.mono (q5.trans ht').agree (q5.trans ht').len⟩
      · have h2 : E'.blk s.heap.length = W.heap.size := by
          rw [(q4.trans ht').agree.blk s.heap.length (by simp), e0]
        simp only [marksOf, h2]
        rw [marksOf_agree (q5.trans ht').agree hs.scope, ← hs.defers]
        rfl
      · intro b hb
        have := (q4.trans ht').len
        have h3 := (q5.trans ht').len
        simp only [List.length_append, List.length_cons, List.length_nil] at this
        rcases List.mem_cons.1 hb with rfl | hb
        · show s.heap.length < h'.length
          omega
        · exact Nat.lt_of_lt_of_le (hs.scope b hb) h3
    · rename_i b0
      split at hr
      · rename_i st0 me0 tm0 ps0 as0 bd0 d hb0
        have hb0 := getB_some hb0 (by simp)
        obtain ⟨e, h', hk, hent, hnt, H⟩ := rangeGo_ok hC (by simp) hr
        refine ⟨e, _, hk, fun ro E a W hs hro hn => wpIn_rangeFunc fun fn _ => ?_⟩
        obtain ⟨hlt, hro⟩ := hro
        subst hro
        obtain ⟨hd, fn0, vs0, _, hc0⟩ := hs.heap.ok b0 _ hb0
        obtain ⟨q3, q4⟩ := hs.newLoop (Agree.refl _ _) (Nat.le_refl _) hs.heap me fn ps assign body d hd
        obtain ⟨c1, c2⟩ := call (l := s.heap.length) (W1 := W.alloc (.loop { state := .ready, pending := none, fn, tmps := a.tmps, params := ps, assign, body, defers := E.blk d })) hs q4.agree q4.len hent
        have hblk : (E.put s.heap.length W.heap.size 0 0 false).blk s.heap.length = W.heap.size := if_pos rfl
        obtain ⟨c3, c4⟩ := c2 _ hblk
        refine ⟨W.heap.size, [], _, _, _, gf, _, _, ?_, c3, fun _ _ => trivial, c4, fun hx => by simp [fen] at hx, ?_⟩
        · simp only [Instr.enterLoop, fen, Sem.run_bind, run_getLoop hc0, Result.andThen_ok, Sem.run_pure, run_newObj_alloc]
        · refine callsIn_wide.2 ?_
          have hcall := H (some (E.blk b0)) _ _ { tmps := a.tmps, defers := [] ++ a.defers } (fun e' a' W' => e' = e.toExit ∧ ∃ E', StOk E' ⟨s.tmps, h', s.marks⟩ a' W' ∧ TransN n E s.heap W E' h' W') q3 c1 fun E' W' hh' ht' => ⟨rfl, E', ⟨hs.size, fun i v hi => ?_, ?_, ?_, hh'⟩, (q4.trans ht').to hn⟩
          · rw [hblk] at hcall; exact hcall
          · obtain ⟨x, hx, hr⟩ := hs.slots i v hi
            exact ⟨x, hx, hr.mono (q4.trans ht').agree (q4.trans ht').len⟩
          · rw [marksOf_agree (q4.trans ht').agree hs.scope, ← hs.defers]
            rfl
          · intro b hb
            exact Nat.lt_of_lt_of_le (hs.scope b hb) (q4.trans ht').len
      · cases hr
  · cases hr
end
end Go.Eng

/- ENGINE, PART 9: code, loops, functions. -/
namespace Go.Eng
open Go

abbrev LoopSum := (R : Type) → Nat → Code → AS → KC R → Option (Option R)
/-- Loops that are known as a whole, by the number of the first region in their body; branches that are taken for granted, by the number of the first region of the first one. -/
structure Loops where
  sum : Nat → Option LoopSum
  dec : Nat → Option Bool

section
variable {R : Type} (P : Program) (C : Oracle) (L : Loops) (N : Nat) (n0 : Nat) (rd : Option Nat) (me : FuncId)

def aop (o : Oper) (ev : Operand → V) (h : List Blk) (K : KOp R) : Option R :=
  match o.op with
  | .move x => K (ev x) [] .none
  | .assign x => K (ev x) [] .none
  | .pick c a b => aPick (ev c) (ev a) (ev b) K
  | .alloc t => aAlloc P t h K
  | .box t x => aBox t (ev x) h K
  | .load t a => aLoad P t (ev a) h K
  | .store t a x => aStore P t (ev a) (ev x) h K
  | .nilCheck x => aNilCheck (ev x) K
  | .binOp op t x y _ => aBinX P op t (ev x) (ev y) h K
  | .unOp op _ x => aUn op (ev x) K
  | .convert src dst x => aConv P src dst (ev x) h K
  | .makeFunc fn first caps => aMakeFunc fn first (mapEv ev caps.toList) K
  | .fieldAddr t x f => aFieldAddr P t (ev x) f K
  | .field t x f => aField P t (ev x) f K
  | .indexAddr t x i => aIndexAddr P t (ev x) (ev i) h K
  | .index t x i => aIndex P t (ev x) (ev i) K
  | .extract t i => aExtract (ev t) i K
  | .build t parts => aBuild P t (partsEv ev parts.toList) K
  | .buildSlice t len parts => aBuildSlice P t len (partsEv ev parts.toList) h K
  | .makeSlice t len cap => aMake P t (ev len) (ev cap) h K
  | .slice t x low high max => aSlice P t (ev x) (optE ev low) (optE ev high) (optE ev max) h K
  | .call c => match c.callee with
    | .value f => aCall C (ev f) (mapEv ev c.args.toList) h K
    | .builtin .min => aMinMax minI (mapEv ev c.args.toList) K
    | .builtin .max => aMinMax maxI (mapEv ev c.args.toList) K
    | .builtin .len => match c.args.toList, c.argTypes.toList with
      | [x], t :: _ => aLen P t (ev x) h K
      | _, _ => none
    | .builtin .append => match c.args.toList, c.argTypes.toList with
      | [s, x], t :: u :: _ => aAppendX P t u (ev s) (ev x) h K
      | _, _ => none
    | .builtin .copy => match c.args.toList, c.argTypes.toList with
      | [s, x], t :: _ :: _ => aCopy P t (ev s) (ev x) h K
      | _, _ => none
    | _ => none
  | _ => none

def getOp : List Oper → Nat → Option Oper
  | [], _ => none
  | o :: _, 0 => some o
  | _ :: r, n + 1 => getOp r n

def doIt (o : Oper) (s : AS) (k : Did → AS → Option R) : Option R :=
  aop P C o (evalV s.tmps) s.heap (fun v rd eff => k ⟨v, rd, eff, true⟩ ⟨putV s.tmps o.dst v, eff.app s.heap, s.marks⟩)
def skipIt (o : Oper) (s : AS) (k : Did → AS → Option R) : Option R :=
  k ⟨undefV, [], .none, false⟩ ⟨putV s.tmps o.dst undefV, s.heap, s.marks⟩
def runOp (ops : List Oper) (o : Oper) (s : AS) (k : Did → AS → Option R) : Option R :=
  match o.guard with
  | none => doIt P C o s k
  | some (j, want) => match getOp ops j with
    | none => skipIt o s k
    | some oj => match oj.dst with
      | none => skipIt o s k
      | some d => match getV s.tmps d with
        | .bool b => cond b
            (cond want (doIt P C o ⟨setV s.tmps d (.bool true), s.heap, s.marks⟩ k) (skipIt o ⟨setV s.tmps d (.bool true), s.heap, s.marks⟩ k))
            (cond want (skipIt o ⟨setV s.tmps d (.bool false), s.heap, s.marks⟩ k) (doIt P C o ⟨setV s.tmps d (.bool false), s.heap, s.marks⟩ k))
        | .tuple [] => skipIt o s k
        | _ => none
def runOps (ops : List Oper) : List Oper → Nat → AS → (AS → List (Nat × Oper × Did) → Option R) → Option R
  | [], _, s, k => k s []
  | o :: r, i, s, k => runOp P C ops o s (fun x s' => runOps ops r (i + 1) s' (fun e l => k e ((i, o, x) :: l)))

def refineS (c : Operand) (b : Bool) (s : AS) : AS := match c with
  | .tmp t => ⟨setV s.tmps t (.bool b), s.heap, s.marks⟩
  | _ => s

def loopN (f : AS → KC R → Option R) : Nat → AS → KC R → Option R
  | 0, _, _ => none
  | n + 1, s, k => f s (fun e s' => match e with
    | .normal => loopN f n s' k
    | e => k e s')

def firstReg : Code → Nat
  | .region id _ _ => id
  | .seq a _ => firstReg a
  | .block _ b => firstReg b
  | .loop b => firstReg b
  | .cond _ a _ => firstReg a
  | _ => 0

def evalCode : Code → AS → KC R → Option R
  | .skip, s, k => k .normal s
  | .label _, s, k => k .normal s
  | .region _ ops draw, s, k => runOps P C ops.toList ops.toList 0 s (fun e l =>
      cond draw (cond (backB ops.toList 0 && (freeB ops (masks ops.toList []) l || (freeP ops (masks ops.toList []) l && chkP l s.heap.length))) (k .normal e) none) (k .normal e))
  | .seq a b, s, k => evalCode a s (fun e s' => match e with
      | .normal => evalCode b s' k
      | e => k e s')
  | .cond c t f, s, k => match evalV s.tmps c with
      | .bool b => match L.dec (firstReg t) with
        | none => cond b (evalCode t (refineS c true s) k) (evalCode f (refineS c false s) k)
        | some true => cond b (evalCode t (refineS c true s) k) none
        | some false => cond b none (evalCode f (refineS c false s) k)
      | _ => none
  | .block id b, s, k => evalCode b s (fun e s' => match e with
      | .exit id' => cond (Nat.beq id' id) (k .normal s') (k (.exit id') s')
      | e => k e s')
  | .loop b, s, k => match L.sum (firstReg b) with
      | some f => match f R n0 b s k with
        | some o => o
        | none => loopN (fun s k => evalCode b s k) N s k
      | none => loopN (fun s k => evalCode b s k) N s k
  | .rangeFunc g ps assign body, s, k => rangeIn C rd me g ps assign body s k
  | .exit id, s, k => k (.exit id) s
  | .ret, s, k => k .ret s
  | _, _, _ => none
end

def LoopOk (P : Program) (f : LoopSum) : Prop := ∀ R n body s k (r : R), f R n body s k = some (some r) → ∃ e s', k e s' = some r ∧ ∀ rd, SimC P n rd (.loop body) s e s'
def loopsOk (P : Program) (L : Loops) : Prop := ∀ n f, L.sum n = some f → LoopOk P f
def noLoops : Loops := ⟨fun _ => none, fun _ => none⟩
theorem noLoops_ok {P : Program} : loopsOk P noLoops := fun _ _ h => by cases h
def decs (d : Nat → Option Bool) : Loops := ⟨fun _ => none, d⟩
theorem decs_ok {P : Program} {d : Nat → Option Bool} : loopsOk P (decs d) := fun _ _ h => by cases h

section
variable {R : Type} {P : Program} {C : Oracle} {L : Loops} {N : Nat} {n0 : Nat} {rd : Option Nat} {me : FuncId}

theorem aop_ok (hC : OracleOk P C) {o : Oper} {ev : Operand → V} {h : List Blk} {K : KOp R} : AopOk P o ev h (aop P C o ev h K) K := by
  unfold aop
  split
  · rename_i ho; exact ok_move ho
  · rename_i ho; exact ok_assign ho
  · rename_i ho; exact ok_pick ho
  · rename_i ho; exact ok_alloc ho
  · rename_i ho; exact ok_box ho
  · rename_i ho; exact ok_load ho
  · rename_i ho; exact ok_store ho
  · rename_i ho; exact ok_nilCheck ho
  · rename_i ho; exact ok_binX ho
  · rename_i ho; exact ok_un ho
  · rename_i ho; exact ok_conv ho
  · rename_i ho; rw [mapEv_eq]; exact ok_makeFunc ho
  · rename_i ho; exact ok_fieldAddr ho
  · rename_i ho; exact ok_field ho
  · rename_i ho; exact ok_indexAddr ho
  · rename_i ho; exact ok_index ho
  · rename_i ho; exact ok_extract ho
  · rename_i ho; exact ok_build ho
  · rename_i ho; exact ok_buildSlice ho
  · rename_i ho; exact ok_make ho
  · rename_i ho; exact ok_slice ho
  · rename_i c ho
    split
    · rename_i f hc; exact ok_call hC ho hc
    · rename_i hc; exact ok_minmax ho hc (.inl rfl)
    · rename_i hc; exact ok_minmax ho hc (.inr rfl)
    · rename_i hc
      split
      · rename_i x t ts h1 h2
        exact ok_len ho hc (by rw [← Array.toArray_toList (xs := c.args), h1]) (by rw [← Array.toArray_toList (xs := c.argTypes), h2]; simp)
      · intro r hr; cases hr
    · rename_i hc
      split
      · rename_i y x t u ts h1 h2
        exact ok_appendX ho hc (by rw [← Array.toArray_toList (xs := c.args), h1]) (by rw [← Array.toArray_toList (xs := c.argTypes), h2]; simp) (by rw [← Array.toArray_toList (xs := c.argTypes), h2]; simp)
      · intro r hr; cases hr
    · rename_i hc
      split
      · rename_i y x t u ts h1 h2
        exact ok_copy ho hc (by rw [← Array.toArray_toList (xs := c.args), h1]) (by rw [← Array.toArray_toList (xs := c.argTypes), h2]; simp)
      · intro r hr; cases hr
    · intro r hr; cases hr
  · intro r hr; cases hr

theorem getOp_eq (l : List Oper) (i : Nat) : getOp l i = l[i]? := by
  induction l generalizing i with
  | nil => rfl
  | cons u r ih => cases i <;> simp [getOp, ih]
theorem setV_same {l : List V} {d : Nat} {b : Bool} (h : getV l d = .bool b) : setV l d (.bool b) = l := by
  rw [getV_eq] at h
  rw [setV_eq]
  cases hd : l[d]? with
  | none => rw [hd] at h; simp [undefV] at h
  | some v =>
    rw [hd] at h
    simp only [Option.getD_some] at h
    subst h
    obtain ⟨hlt, hv⟩ := List.getElem?_eq_some_iff.1 hd
    rw [← hv]; exact List.set_getElem_self hlt

theorem doIt_ok (hC : OracleOk P C) {ops : List Oper} {o : Oper} {s : AS} {k : Did → AS → Option R} {r : R} (hr : doIt P C o s k = some r) (hg : guardA ops o s.tmps = some true) :
    ∃ x, k x (nextS o s x) = some r ∧ StepOk P ops o s x := by
  have hnd : ∀ c, o.op ≠ .defer c := fun c hc => by simp [doIt, aop, hc] at hr
  by_cases hal : ∃ t, o.op = .alloc t
  · obtain ⟨t, ho⟩ := hal
    have hr' : aAlloc P t s.heap (fun v rd eff => k ⟨v, rd, eff, true⟩ ⟨putV s.tmps o.dst v, eff.app s.heap, s.marks⟩) = some r := by
      simpa only [doIt, aop, ho] using hr
    unfold aAlloc at hr'
    split at hr'
    · rename_i z hz
      have hrun : ∀ (E : Env) (a : Act) (W : World), (execOp a.eval o).run P W = .ok (.value (.pointer (some ⟨W.heap.size, 0, none⟩))) (W.alloc (.cells (concs E (rowOfVs (zeroCells z)).toVs).toArray t)) := fun E a W => by
        rw [rowOfVs_vs]
        simp only [execOp, ho, Instr.alloc, Sem.run_bind, run_zeroOf hz, Result.andThen_ok, newVar, newRow, run_newObj, Sem.run_pure]
        simp [zeroCells_eq]
      have hin : ∀ m, inSs m (rowOfVs (zeroCells z)).toVs = true := fun m => by rw [rowOfVs_vs]; exact zeroCells_inS m z
      refine ⟨⟨.ptr s.heap.length 0, [], .push s.heap.length (.own t (rowOfVs (zeroCells z))), true⟩, hr', ⟨hg, fun _ => ⟨hnd, push_semR (fun n _ _ _ => hin n) (fun n E a W _ => hrun E a W), ⟨fun _ _ => rfl, rfl⟩⟩, fun h => (by cases h), fun _ _ n blk he => ?_⟩⟩
      cases he
      intro h2 _ E a W hH hv hn hc next Q hk
      refine Oper.wpE_value (hrun E a W) (hk W.heap.size 0 0 0 false none _ _ (Keeps.alloc _ _) ⟨if_pos rfl, hin _, (0, 0), fun o _ hx => Nat.not_lt_zero _ hx.2, ?_⟩ (fun _ => Nat.le_refl _) (.inr ⟨by simp [inS, hn], by simp [conc, Env.one]⟩))
      rw [show (E.one s.heap.length W.heap.size 0 0 0 false none).blk s.heap.length = W.heap.size from if_pos rfl, concs_one _ (noRow_vss hc)]
      show (W.heap.push _)[W.heap.size]? = _
      simp
    · cases hr'
  · by_cases hbs : ∃ t n ps, o.op = .buildSlice t n ps
    · obtain ⟨t, n, ps, ho⟩ := hbs
      have hr' : aBuildSlice P t n (partsEv (evalV s.tmps) ps.toList) s.heap (fun v rd eff => k ⟨v, rd, eff, true⟩ ⟨putV s.tmps o.dst v, eff.app s.heap, s.marks⟩) = some r := by
        simpa only [doIt, aop, ho] using hr
      obtain ⟨e, sz, m, hk, hz, hl, hrun⟩ := buildSlice_inv ho hr'
      refine ⟨⟨.gs s.heap.length, [], .push s.heap.length (.grow true e sz (.vs m)), true⟩, hk, ⟨hg, fun _ => ⟨hnd, newSlice_sem (len := n) (cap := n) hz hl (Nat.le_refl _) (fun q E a hv => (hrun q E a hv).1) fun q E a W hv => ?_, ⟨fun _ _ => rfl, rfl⟩⟩, fun h => (by cases h), fun _ _ n' blk he => ?_⟩⟩
      · exact ⟨[], (0, 0), fun o ho h => by omega, by simp only [Row.len, List.length_nil, Nat.add_zero]; omega, by rw [List.append_nil]; exact (hrun q E a hv).2 W⟩
      · cases he
        intro h2 _ E a W hH hv hn hc next Q hk
        obtain ⟨q1, q2⟩ := hrun _ E a hv
        refine Oper.wpE_value (q2 W) (hk W.heap.size 0 n n false none _ _ (Keeps.alloc _ _) ⟨if_pos rfl, q1, hz, by simp [Env.one, Row.len, hl], by simp [Env.one], fun h => by simp [Env.one] at h, fun _ => ⟨(0, 0), [], fun o _ hx => Nat.not_lt_zero _ hx.2, by simp [Env.one, Row.len, hl], ?_⟩⟩ (fun _ => Nat.le_refl _) (.inr ⟨by simp [inS, hn], by simp [conc, Env.one]⟩))
        rw [show (E.one s.heap.length W.heap.size 0 n n false none).blk s.heap.length = W.heap.size from if_pos rfl, concs_one _ (noRow_vss (r := .vs m) hc), List.append_nil]
        show (W.heap.push _)[W.heap.size]? = _
        simp [Row.toVs]
    · by_cases hcl : ∃ c f, o.op = .call c ∧ c.callee = .value f
      · obtain ⟨c, f, ho, hc⟩ := hcl
        have hr' : aCall C (evalV s.tmps f) (mapEv (evalV s.tmps) c.args.toList) s.heap (fun v rd eff => k ⟨v, rd, eff, true⟩ ⟨putV s.tmps o.dst v, eff.app s.heap, s.marks⟩) = some r := by
          simpa only [doIt, aop, ho, hc] using hr
        obtain ⟨v, rd, eff, hk, hs, hx, hB⟩ := ok_callB hC ho hc hr'
        exact ⟨⟨v, rd, eff, true⟩, hk, ⟨hg, fun _ => ⟨hnd, hx, hs⟩, fun h => (by cases h), fun _ _ n blk he => hB n blk he⟩⟩
      · obtain ⟨v, rd, eff, hk, hs, hx⟩ := aop_ok hC r hr
        exact ⟨⟨v, rd, eff, true⟩, hk, ⟨hg, fun _ => ⟨hnd, hx, hs⟩, fun h => (by cases h), fun hb _ => by
          unfold isBorn at hb
          split at hb
          · rename_i t ht; exact absurd ⟨t, ht⟩ hal
          · rename_i t n ps ht; exact absurd ⟨t, n, ps, ht⟩ hbs
          · rename_i c ht
            split at hb
            · rename_i f hf; exact absurd ⟨c, f, ht, hf⟩ hcl
            · cases hb
          · cases hb⟩⟩
theorem skipIt_ok {ops : List Oper} {o : Oper} {s : AS} {k : Did → AS → Option R} {r : R} (hr : skipIt o s k = some r) (hg : guardA ops o s.tmps = some false) :
    ∃ x, k x (nextS o s x) = some r ∧ StepOk P ops o s x :=
  ⟨⟨undefV, [], .none, false⟩, hr, ⟨hg, fun h => (by cases h), fun _ => ⟨rfl, rfl, rfl⟩, fun _ h => (by cases h)⟩⟩
theorem runOp_ok (hC : OracleOk P C) {ops : List Oper} {o : Oper} {s : AS} {k : Did → AS → Option R} {r : R} (hr : runOp P C ops o s k = some r) :
    ∃ x, k x (nextS o s x) = some r ∧ StepOk P ops o s x := by
  unfold runOp at hr
  split at hr
  · rename_i hg; exact doIt_ok hC hr (by simp [guardA, hg])
  · rename_i j want hg
    rw [getOp_eq] at hr
    split at hr
    · rename_i hj; exact skipIt_ok hr (by simp [guardA, hg, hj])
    · rename_i oj hj
      split at hr
      · rename_i hd; exact skipIt_ok hr (by simp [guardA, hg, hj, hd])
      · rename_i d hd
        split at hr
        · rename_i b hb
          have hga : guardA ops o s.tmps = some (eqB b want) := by simp [guardA, hg, hj, hd, hb]
          cases b
          · simp only [cond_false, setV_same hb] at hr
            cases want
            · exact doIt_ok hC hr hga
            · exact skipIt_ok hr hga
          · simp only [cond_true, setV_same hb] at hr
            cases want
            · exact skipIt_ok hr hga
            · exact doIt_ok hC hr hga
        · rename_i hb; exact skipIt_ok hr (by simp [guardA, hg, hj, hd, hb])
        · cases hr
theorem runOps_ok (hC : OracleOk P C) {ops : List Oper} : ∀ {rest : List Oper} {i : Nat} {s : AS} {k : AS → List (Nat × Oper × Did) → Option R} {r : R}, runOps P C ops rest i s k = some r → ops.drop i = rest →
    ∃ e l, k e l = some r ∧ PathOk P ops s l e ∧ l.map (·.1) = List.range' i rest.length ∧ (∀ x ∈ l, ops[x.1]? = some x.2.1) ∧ ascB l ∧ (∀ x ∈ l, i ≤ x.1)
  | [], i, s, k, r, hr, _ => ⟨s, [], hr, rfl, rfl, fun x hx => (by cases hx), trivial, fun x hx => (by cases hx)⟩
  | o :: rest, i, s, k, r, hr, hd => by
    unfold runOps at hr
    obtain ⟨x, hk, hx⟩ := runOp_ok hC hr
    have ho : ops[i]? = some o := by
      have := congrArg (fun l => l[0]?) hd
      simpa using this
    obtain ⟨e, l, h1, h2, h3, h4, h5, h6⟩ := runOps_ok hC hk (by rw [← List.drop_drop, hd]; rfl)
    refine ⟨e, (i, o, x) :: l, h1, ⟨ho, hx, h2⟩, by simp [h3, List.range'_succ], fun y hy => ?_, ⟨fun y hy => by have := h6 y hy; omega, h5⟩, fun y hy => ?_⟩
    · rcases List.mem_cons.1 hy with rfl | hy
      · exact ho
      · exact h4 y hy
    · rcases List.mem_cons.1 hy with rfl | hy
      · exact Nat.le_refl _
      · have := h6 y hy; omega

theorem region_ok (hC : OracleOk P C) (hm : P.follows .mixedOrders = true) {id : Nat} {ops : Array Oper} {draw : Bool} {s : AS} {k : KC R} {r : R}
    (hr : evalCode P C L N n0 rd me (.region id ops draw) s k = some r) : ∃ e s', k e s' = some r ∧ SimC P n0 rd (.region id ops draw) s e s' := by
  unfold evalCode at hr
  obtain ⟨e, l, h1, h2, h3, h4, h5, h6⟩ := runOps_ok hC hr rfl
  cases draw with
  | false =>
    refine ⟨.normal, e, h1, fun ro E a W hs _ hn => wpIn_region ?_⟩
    have := h2.seq (r := ro) (Q := fun e' a' W' => e' = XE.normal.toExit ∧ ∃ E', StOk E' e a' W' ∧ TransN n0 E s.heap W E' e.heap W') hs (fun E' a' W' h ht => ⟨rfl, E', h, ht.to hn⟩)
    rw [h3, ← List.range_eq_range'] at this
    simpa using this
  | true =>
    simp only [cond_true] at h1
    cases hb : (backB ops.toList 0 && (freeB ops (masks ops.toList []) l || (freeP ops (masks ops.toList []) l && chkP l s.heap.length))) with
    | false => rw [hb] at h1; cases h1
    | true =>
      rw [hb] at h1
      simp only [Bool.and_eq_true, Bool.or_eq_true] at hb
      have hlen : l.length = ops.toList.length := by
        have := congrArg List.length h3; simpa using this
      refine ⟨.normal, e, h1, fun ro E a W hs _ hn => wpIn_region_any hm ?_⟩
      have hs' : StOk E s a W.drew := ⟨hs.size, hs.slots, hs.defers, hs.scope, hs.heap.drew⟩
      have hli : ∀ i, i < ops.toList.length → ((Array.replicate ops.size false).getD i false = true ↔ i ∉ l.map (·.1)) := fun i hi => by
        rw [h3]
        have hi' : i < ops.size := by simpa using hi
        constructor
        · intro h; simp [hi'] at h
        · intro h; exact absurd (List.mem_range'.2 ⟨i, by simpa using hi', by omega⟩) h
      have hcl : closedL ops.toList (Array.replicate ops.size false) := fun k o hk hl => by
        have hk' : k < ops.size := by have := getElem?_lt hk; simpa using this
        simp [hk'] at hl
      rcases hb.2 with hf | ⟨hf, hchk⟩
      · have := wpAny_of_path (P := P) (r := ro) (Q := fun e' a' W' => e' = XE.normal.toExit ∧ ∃ E', StOk E' e a' W' ∧ TransN n0 E s.heap W E' e.heap W') hb.1 l.length l (Array.replicate ops.size false) s e E a W.drew rfl (by simp)
          hli h4 hcl h5 (by simpa using hf) h2 hs' (fun E' a' W' h ht => ⟨rfl, E', h, (Trans.drew.trans ht).to hn⟩)
        rw [hlen] at this
        simpa using this
      · have := wpAny_of_births (P := P) (r := ro) (n0 := n0) (Q := fun e' a' W' => e' = XE.normal.toExit ∧ ∃ E', StOk E' e a' W' ∧ TransN n0 E s.heap W E' e.heap W') hb.1 l (Array.replicate ops.size false) s e E a W.drew (by simp)
          hli h4 hcl h5 (by simpa using hf) hchk hn h2 hs' (fun E' a' W' h ht => ⟨rfl, E', h, (Trans.drew.to hn).trans ht⟩)
        rw [hlen] at this
        simpa using this

theorem loopN_ok {body : Code} {f : AS → KC R → Option R} (hf : ∀ s k r, f s k = some r → ∃ e s', k e s' = some r ∧ SimC P n0 rd body s e s') :
    ∀ (n : Nat) (s : AS) (k : KC R) (r : R), loopN f n s k = some r → ∃ e s', k e s' = some r ∧
      ∀ ro E a W, StOk E s a W → RdOk E n0 ro rd → n0 ≤ s.heap.length → ∀ Q : Exit → Act → World → Prop, (∀ E' a' W', StOk E' s' a' W' → TransN n0 E s.heap W E' s'.heap W' → Q e.toExit a' W') → Code.roundsIn (fen ro) 0 P body Q n a W
  | 0, s, k, r, h => by simp [loopN] at h
  | n + 1, s, k, r, h => by
    unfold loopN at h
    obtain ⟨e, s1, h1, hsim⟩ := hf s _ r h
    have leave : ∀ (e : XE), e ≠ .normal → SimC P n0 rd body s e s1 → k e s1 = some r → ∃ e s', k e s' = some r ∧
        ∀ ro E a W, StOk E s a W → RdOk E n0 ro rd → n0 ≤ s.heap.length → ∀ Q : Exit → Act → World → Prop, (∀ E' a' W', StOk E' s' a' W' → TransN n0 E s.heap W E' s'.heap W' → Q e.toExit a' W') → Code.roundsIn (fen ro) 0 P body Q (n + 1) a W := fun e hne hsim hk => by
      refine ⟨e, s1, hk, fun ro E a W hs hro hn Q hQ => ?_⟩
      rw [roundsIn_succ]
      refine wpIn_mono (hsim ro E a W hs hro hn) ?_
      rintro e' a' W' ⟨rfl, E', hs', ht⟩
      cases e with
      | normal => exact absurd rfl hne
      | exit id => exact hQ E' a' W' hs' ht
      | ret => exact hQ E' a' W' hs' ht
    cases e with
    | normal =>
      simp only at h1
      obtain ⟨e2, s2, h2, hsim2⟩ := loopN_ok hf n s1 k r h1
      refine ⟨e2, s2, h2, fun ro E a W hs hro hn Q hQ => ?_⟩
      rw [roundsIn_succ]
      refine wpIn_mono (hsim ro E a W hs hro hn) ?_
      rintro e' a' W' ⟨rfl, E', hs', ht⟩
      exact hsim2 ro E' a' W' hs' (hro.agree ht.agree (Nat.le_refl _)) ht.len Q (fun E'' a'' W'' hs'' ht' => hQ E'' a'' W'' hs'' (ht.trans ht'))
    | exit id => exact leave _ (by simp) hsim h1
    | ret => exact leave _ (by simp) hsim h1

theorem evalCode_ok (hC : OracleOk P C) (hm : P.follows .mixedOrders = true) (hl : loopsOk P L) : ∀ {c : Code} {s : AS} {k : KC R} {r : R}, evalCode P C L N n0 rd me c s k = some r → ∃ e s', k e s' = some r ∧ SimC P n0 rd c s e s'
  | .skip, s, k, r, hr => ⟨.normal, s, hr, fun _ E a W hs _ hn => wpIn_skip ⟨rfl, E, hs, (Trans.refl _ _ _).to hn⟩⟩
  | .label _, s, k, r, hr => ⟨.normal, s, hr, fun _ E a W hs _ hn => wpIn_label ⟨rfl, E, hs, (Trans.refl _ _ _).to hn⟩⟩
  | .exit id, s, k, r, hr => ⟨.exit id, s, hr, fun _ E a W hs _ hn => wpIn_exit ⟨rfl, E, hs, (Trans.refl _ _ _).to hn⟩⟩
  | .ret, s, k, r, hr => ⟨.ret, s, hr, fun _ E a W hs _ hn => wpIn_ret ⟨rfl, E, hs, (Trans.refl _ _ _).to hn⟩⟩
  | .region id ops draw, s, k, r, hr => region_ok hC hm hr
  | .seq x y, s, k, r, hr => by
    unfold evalCode at hr
    obtain ⟨e, s1, h1, hsim⟩ := evalCode_ok hC hm hl hr
    have leave : ∀ (e : XE), e ≠ .normal → SimC P n0 rd x s e s1 → k e s1 = some r → ∃ e s', k e s' = some r ∧ SimC P n0 rd (.seq x y) s e s' := fun e hne hsim hk => by
      refine ⟨e, s1, hk, fun ro E a W hs hro hn => wpIn_seq (wpIn_mono (hsim ro E a W hs hro hn) ?_)⟩
      rintro e' a' W' ⟨rfl, E', hs', ht⟩
      cases e with
      | normal => exact absurd rfl hne
      | exit id => exact ⟨rfl, E', hs', ht⟩
      | ret => exact ⟨rfl, E', hs', ht⟩
    cases e with
    | normal =>
      simp only at h1
      obtain ⟨e2, s2, h2, hsim2⟩ := evalCode_ok hC hm hl h1
      refine ⟨e2, s2, h2, fun ro E a W hs hro hn => wpIn_seq (wpIn_mono (hsim ro E a W hs hro hn) ?_)⟩
      rintro e' a' W' ⟨rfl, E', hs', ht⟩
      refine wpIn_mono (hsim2 ro E' a' W' hs' (hro.agree ht.agree (Nat.le_refl _)) ht.len) ?_
      rintro e'' a'' W'' ⟨rfl, E'', hs'', ht'⟩
      exact ⟨rfl, E'', hs'', ht.trans ht'⟩
    | exit id => exact leave _ (by simp) hsim h1
    | ret => exact leave _ (by simp) hsim h1
  | .cond c x y, s, k, r, hr => by
    unfold evalCode at hr
    split at hr
    · rename_i b hb
      have hrefine : refineS c b s = s := by
        unfold refineS
        split
        · rename_i t; rw [setV_same (by simpa [evalV] using hb)]
        · rfl
      have hval : ∀ {E : Env} {a : Act} {W : World}, StOk E s a W → a.eval c = .bool b := fun hs => by
        have := hs.eval c; rw [hb] at this; exact this.bool
      have yes : b = true → ∀ {r}, evalCode P C L N n0 rd me x s k = some r → ∃ e s', k e s' = some r ∧ SimC P n0 rd (.cond c x y) s e s' := fun hb r hq => by
        subst hb
        obtain ⟨e, s', h1, hsim⟩ := evalCode_ok hC hm hl hq
        exact ⟨e, s', h1, fun ro E a W hs hro hn => wpIn_cond_true (hval hs) (hsim ro E a W hs hro hn)⟩
      have no : b = false → ∀ {r}, evalCode P C L N n0 rd me y s k = some r → ∃ e s', k e s' = some r ∧ SimC P n0 rd (.cond c x y) s e s' := fun hb r hq => by
        subst hb
        obtain ⟨e, s', h1, hsim⟩ := evalCode_ok hC hm hl hq
        exact ⟨e, s', h1, fun ro E a W hs hro hn => wpIn_cond_false (hval hs) (hsim ro E a W hs hro hn)⟩
      split at hr <;> cases b <;> simp only [cond_true, cond_false, hrefine] at hr
      all_goals first
        | (exact yes rfl hr)
        | (exact no rfl hr)
        | (cases hr)
    · cases hr
  | .block id x, s, k, r, hr => by
    unfold evalCode at hr
    obtain ⟨e, s1, h1, hsim⟩ := evalCode_ok hC hm hl hr
    cases e with
    | normal =>
      refine ⟨.normal, s1, h1, fun ro E a W hs hro hn => wpIn_block (wpIn_mono (hsim ro E a W hs hro hn) ?_)⟩
      rintro e' a' W' ⟨rfl, E', hs', ht⟩
      exact ⟨rfl, E', hs', ht⟩
    | ret =>
      refine ⟨.ret, s1, h1, fun ro E a W hs hro hn => wpIn_block (wpIn_mono (hsim ro E a W hs hro hn) ?_)⟩
      rintro e' a' W' ⟨rfl, E', hs', ht⟩
      exact ⟨rfl, E', hs', ht⟩
    | exit id' =>
      simp only at h1
      cases hid : Nat.beq id' id with
      | true =>
        rw [hid] at h1
        have := Nat.eq_of_beq_eq_true hid
        subst this
        refine ⟨.normal, s1, h1, fun ro E a W hs hro hn => wpIn_block (wpIn_mono (hsim ro E a W hs hro hn) ?_)⟩
        rintro e' a' W' ⟨rfl, E', hs', ht⟩
        simp only [XE.toExit, Exit.inBlock, if_true]
        exact ⟨trivial, E', hs', ht⟩
      | false =>
        rw [hid] at h1
        refine ⟨.exit id', s1, h1, fun ro E a W hs hro hn => wpIn_block (wpIn_mono (hsim ro E a W hs hro hn) ?_)⟩
        rintro e' a' W' ⟨rfl, E', hs', ht⟩
        have : id' ≠ id := fun e => by subst e; simp at hid
        simp only [XE.toExit, Exit.inBlock, if_neg this]
        exact ⟨trivial, E', hs', ht⟩
  | .loop b, s, k, r, hr => by
    have unroll : loopN (fun s k => evalCode P C L N n0 rd me b s k) N s k = some r → ∃ e s', k e s' = some r ∧ SimC P n0 rd (.loop b) s e s' := fun hr => by
      obtain ⟨e, s', h1, H⟩ := loopN_ok (P := P) (n0 := n0) (rd := rd) (body := b) (fun s k r h => evalCode_ok hC hm hl h) N s k r hr
      exact ⟨e, s', h1, fun ro E a W hs hro hn => wpIn_loop_rounds N (H ro E a W hs hro hn _ fun E' a' W' hs' ht => ⟨rfl, E', hs', ht⟩)⟩
    unfold evalCode at hr
    split at hr
    · rename_i f hf
      split at hr
      · rename_i o ho
        subst hr
        obtain ⟨e, s', h1, H⟩ := hl _ f hf R n0 b s k r ho
        exact ⟨e, s', h1, H rd⟩
      · exact unroll hr
    · exact unroll hr
  | .rangeFunc .., _, _, _, hr => by unfold evalCode at hr; exact range_ok hC hr
  | .scope _, _, _, _, hr => by unfold evalCode at hr; cases hr
  | .goto _, _, _, _, hr => by unfold evalCode at hr; cases hr
  | .refuse _, _, _, _, hr => by unfold evalCode at hr; cases hr

/-! ### functions -/
def resV (P : Program) (h : List Blk) (tmps : List V) : List ResultVar → (List V → Option R) → Option R
  | [], K => K []
  | .tmp t :: r, K => match getV tmps t with
    | .top => none
    | v => resV P h tmps r (fun l => K (v :: l))
  | .cell a t :: r, K => aLoad P t (getV tmps a) h (fun v _ _ => resV P h tmps r (fun l => K (v :: l)))
def undefs : Nat → List V
  | 0 => []
  | n + 1 => undefV :: undefs n
def oneRes : List V → V
  | [v] => v
  | l => .tuple l
/-- The marks of the ranges over functions are come to. -/
def takeMarks (h : List Blk) : List Nat → (List Blk → Option R) → Option R
  | [], K => K h
  | m :: r, K => match getB h m with
    | .defs => takeMarks (setB h m .dead) r K
    | _ => none
def evalFn (P : Program) (C : Oracle) (L : Loops) (N : Nat) (me : FuncId) (fn : Func) (args : List V) (h : List Blk) (K : V → List Blk → Option R) : Option R :=
  match fn.body with
  | some c => evalCode P C L N h.length none me c ⟨appV args (undefs (fn.ntmps - args.length)), h, []⟩ (fun e s => match e with
    | .exit _ => none
    | _ => takeMarks s.heap s.marks (fun h' => resV P h' s.tmps fn.results.toList (fun l => K (oneRes l) h')))
  | none => none

theorem undefs_eq (n : Nat) : undefs n = List.replicate n undefV := by
  induction n with
  | zero => rfl
  | succ n ih => simp [undefs, ih, List.replicate_succ]

def resM (tmps : Array Value) : ResultVar → Sem Value
  | .tmp t => pure (tmps.getD t undef)
  | .cell b t => do loadVar t (← asAddr (tmps.getD b undef))
theorem resV_ok {h : List Blk} {tmps : List V} : ∀ {rs : List ResultVar} {K : List V → Option R} {r : R}, resV P h tmps rs K = some r → ∃ l, K l = some r ∧
    ∀ E a W, StOk E ⟨tmps, h, []⟩ a W → inSs h.length l = true ∧
      (rs.mapM (resM a.tmps)).run P W = .ok (concs E l) W
  | [], K, r, hr => ⟨[], hr, fun E a W hs => ⟨rfl, rfl⟩⟩
  | .tmp t :: rs, K, r, hr => by
    unfold resV at hr
    split at hr
    · cases hr
    · rename_i hnt
      obtain ⟨l, hk, H⟩ := resV_ok hr
      refine ⟨_, hk, fun E a W hs => ?_⟩
      obtain ⟨h1, h2⟩ := H E a W hs
      have h0 := hs.eval (.tmp t)
      simp only [evalV, Act.eval] at h0
      obtain ⟨e1, e2⟩ := h0.val (fun e => hnt e)
      refine ⟨by simp only [inSs, Bool.and_eq_true]; exact ⟨e2, h1⟩, ?_⟩
      have hm : (resM a.tmps (.tmp t)).run P W = .ok (conc E (getV tmps t)) W := by simp only [resM, Sem.run_pure, e1]
      simp only [List.mapM_cons, Sem.run_bind, hm, Sem.run_pure, Result.andThen_ok, h2, concs]
  | .cell b t :: rs, K, r, hr => by
    unfold resV at hr
    obtain ⟨v, rd, eff, hk, hx⟩ := aLoad_run hr
    obtain ⟨l, hk, H⟩ := resV_ok hk
    refine ⟨_, hk, fun E a W hs => ?_⟩
    obtain ⟨h1, h2⟩ := H E a W hs
    have h0 := hs.eval (.tmp b)
    simp only [evalV, Act.eval] at h0
    obtain ⟨h3, ad, e1, h4⟩ := hx E W hs.heap _ h0
    refine ⟨by simp only [inSs, Bool.and_eq_true]; exact ⟨h3, h1⟩, ?_⟩
    have hm : (resM a.tmps (.cell b t)).run P W = .ok (conc E v) W := by simp only [resM, Sem.run_bind, e1, asAddr, Sem.run_pure, Result.andThen_ok, h4]
    simp only [List.mapM_cons, Sem.run_bind, hm, Sem.run_pure, Result.andThen_ok, h2, concs]

theorem results_eq (fn : Func) (tmps : Array Value) : results fn tmps = (do
    let vs ← fn.results.mapM (resM tmps)
    pure (if h : vs.size = 1 then vs[0] else .tuple vs)) := by
  unfold results
  congr 1
theorem oneRes_conc (E : Env) (l : List V) (W : World) {P : Program} (fn : Func) (tmps : Array Value) (h : (fn.results.toList.mapM (resM tmps)).run P W = .ok (concs E l) W) :
    (results fn tmps).run P W = .ok (conc E (oneRes l)) W := by
  rw [results_eq]
  have hm : (fn.results.mapM (resM tmps)).run P W = .ok (concs E l).toArray W := by
    have : fn.results.mapM (resM tmps) = List.toArray <$> fn.results.toList.mapM (resM tmps) := by
      rw [← List.mapM_toArray, Array.toArray_toList]
    rw [this, Sem.run_map, h]
    rfl
  rw [Sem.run_bind, hm]
  simp only [Result.andThen_ok, Sem.run_pure]
  congr 1
  match l with
  | [v] => simp [oneRes, concs]
  | [] => simp [oneRes, concs, conc]
  | u :: v :: r => simp [oneRes, concs, conc]

theorem takeMarks_ok {fn : Func} {tmps : List V} : ∀ {ms : List Nat} {h : List Blk} {K : List Blk → Option R} {r : R}, takeMarks h ms K = some r → ∃ h', K h' = some r ∧
    ∀ {E : Env} {a : Act} {W : World} {Rp : Ending → World → Prop}, StOk E ⟨tmps, h, ms⟩ a W →
      (∀ W', StOk E ⟨tmps, h', []⟩ { tmps := a.tmps, defers := [] } W' → Trans E h W E h' W' → LeavesInM (fen none) 0 P fn a.tmps Rp [] .returning W') →
      LeavesInM (fen none) 0 P fn a.tmps Rp a.defers .returning W
  | [], h, K, r, hr => by
    refine ⟨h, hr, fun {E a W Rp} hs H => ?_⟩
    have hd : a.defers = [] := hs.defers
    rw [hd]
    exact H W ⟨hs.size, hs.slots, rfl, hs.scope, hs.heap⟩ (Trans.refl _ _ _)
  | m :: ms, h, K, r, hr => by
    unfold takeMarks at hr
    split at hr
    · rename_i hm
      have hb := getB_some hm (by simp)
      obtain ⟨h', hk, H⟩ := takeMarks_ok (tmps := tmps) hr
      refine ⟨h', hk, fun {E a W Rp} hs H2 => ?_⟩
      have hd : a.defers = { target := .collected (E.blk m), args := #[] } :: marksOf E ms := hs.defers
      rw [hd]
      have hok : W.heap[E.blk m]? = some (.deferred (some [])) := hs.heap.ok m _ hb
      obtain ⟨q1, q2⟩ := hs.heap.retire hb rfl rfl (.deferred none)
      refine ⟨by simp, .inl ⟨_, _, rfl, run_takeDeferred hok, ?_⟩⟩
      have := H (E := E) (a := { tmps := a.tmps, defers := marksOf E ms }) (W := World.putObj W (E.blk m) (.deferred none)) (Rp := Rp)
        ⟨hs.size, fun i v hi => by
          obtain ⟨x, hx, hr⟩ := hs.slots i v hi
          exact ⟨x, hx, by rw [setB_len]; exact hr⟩, rfl, fun b hb' => by rw [setB_len]; exact hs.scope b (by simp [hb']), q1⟩
        (fun W' hs' ht => H2 W' hs' (q2.trans ht))
      exact this
    · cases hr

theorem evalFn_ok (hC : OracleOk P C) (hm : P.follows .mixedOrders = true) {f : FuncId} {fn : Func} (hf : P.funcs[f]? = some fn) (hL : loopsOk P L) {args : List V} {h : List Blk} {K : V → List Blk → Option R} {r : R}
    (hr : evalFn P C L N me fn args h K = some r) : ∃ v h', K v h' = some r ∧ FnOK P f args h v h' := by
  unfold evalFn at hr
  split at hr
  · rename_i c hc
    obtain ⟨e, s, h1, hsim⟩ := evalCode_ok hC hm hL hr
    have hne : ∀ id, e ≠ .exit id := fun id he => by subst he; simp at h1
    have h1' : takeMarks s.heap s.marks (fun h' => resV P h' s.tmps fn.results.toList (fun l => K (oneRes l) h')) = some r := by
      cases e with
      | normal => exact h1
      | ret => exact h1
      | exit id => exact absurd rfl (hne id)
    obtain ⟨h', hk', HM⟩ := takeMarks_ok (P := P) (fn := fn) (tmps := s.tmps) h1'
    obtain ⟨l, hk, H⟩ := resV_ok hk'
    refine ⟨oneRes l, h', hk, fun E W hh hin => (callsIn_wide (n := 0)).1 (callsIn_of_wp_marks hf hc trivial ?_)⟩
    have hs : StOk E ⟨appV args (undefs (fn.ntmps - args.length)), h, []⟩ { tmps := (concs E args).toArray ++ Array.replicate (fn.ntmps - (concs E args).toArray.size) undef, defers := [] } W := by
      refine ⟨by simp [appV_eq, undefs_eq, concs_eq], fun i v hi => ?_, rfl, fun _ hb => (by cases hb), hh⟩
      simp only [appV_eq, undefs_eq] at hi
      simp only [concs_eq, List.size_toArray, List.length_map, Array.getElem?_append]
      rcases Nat.lt_or_ge i args.length with hlt | hge
      · rw [List.getElem?_append_left hlt] at hi
        have hv := (List.getElem?_eq_some_iff.1 hi).2
        refine ⟨conc E v, by simp [hlt, hv], VR.of (inSs_get hin hi)⟩
      · rw [List.getElem?_append_right hge] at hi
        have hlt := getElem?_lt hi
        simp at hlt
        have : v = undefV := by
          have := List.mem_of_getElem? hi
          exact (List.mem_replicate.1 this).2
        subst this
        refine ⟨undef, ?_, VR.undef⟩
        rw [if_neg (by omega), Array.getElem?_replicate, if_pos hlt]
    refine wpIn_mono (hsim none E _ W hs rfl (Nat.le_refl _)) ?_
    rintro e' a' W' ⟨rfl, E', hs', ht0⟩
    have ht := ht0.full
    have hleave : LeavesInM (fen none) 0 P fn a'.tmps (EndsIn E W h (oneRes l) h') a'.defers .returning W' := by
      refine HM hs' fun W2 hs2 ht2 => ?_
      obtain ⟨h2, h3⟩ := H E' { tmps := a'.tmps, defers := [] } W2 hs2
      have h4 := oneRes_conc E' l W2 fn a'.tmps h3
      have h5 : inS h'.length (oneRes l) = true := by
        unfold oneRes
        split
        · simpa [inSs] using h2
        · simpa [inS] using h2
      exact ⟨_, h4, _, E', rfl, VR.of h5, hs2.heap, ht.trans ht2⟩
    cases e with
    | normal => exact hleave
    | ret => exact hleave
    | exit id => exact absurd rfl (hne id)
  · cases hr

mutual
def plainV : V → Bool
  | .ptr _ _ | .view _ _ _ _ | .aslice _ _ _ _ | .gs _ | .yield _ | .top => false
  | .func _ caps => plainVs caps
  | .agg l => plainVs l
  | .tuple l => plainVs l
  | _ => true
def plainVs : List V → Bool
  | [] => true
  | v :: r => plainV v && plainVs r
end
mutual
theorem plainV_conc {E E' : Env} {n : Nat} : ∀ v, plainV v = true → conc E v = conc E' v ∧ inS n v = true
  | .bool _, _ | .int _ _, _ | .str _, _ | .flat _, _ | .glob _ _, _ => by simp [conc, inS]
  | .ptr _ _, h | .view _ _ _ _, h | .aslice _ _ _ _, h | .gs _, h | .yield _, h | .top, h => by simp [plainV] at h
  | .func f caps, h => by
    simp only [plainV] at h
    obtain ⟨h1, h2⟩ := plainVs_conc (E := E) (E' := E') (n := n) caps h
    exact ⟨by simp only [conc, h1], by simpa [inS] using h2⟩
  | .agg l, h => by
    simp only [plainV] at h
    obtain ⟨h1, h2⟩ := plainVs_conc (E := E) (E' := E') (n := n) l h
    exact ⟨by simp only [conc, h1], by simpa [inS] using h2⟩
  | .tuple l, h => by
    simp only [plainV] at h
    obtain ⟨h1, h2⟩ := plainVs_conc (E := E) (E' := E') (n := n) l h
    exact ⟨by simp only [conc, h1], by simpa [inS] using h2⟩
theorem plainVs_conc {E E' : Env} {n : Nat} : ∀ l, plainVs l = true → concs E l = concs E' l ∧ inSs n l = true
  | [], _ => ⟨rfl, rfl⟩
  | v :: r, h => by
    simp only [plainVs, Bool.and_eq_true] at h
    obtain ⟨h1, h2⟩ := plainV_conc (E := E) (E' := E') (n := n) v h.1
    obtain ⟨h3, h4⟩ := plainVs_conc (E := E) (E' := E') (n := n) r h.2
    exact ⟨by simp only [concs, h1, h3], by simp [inSs, h2, h4]⟩
end

theorem FnOK.pure {f : FuncId} {args : List V} {v : V} {h' : List Blk} (hf : FnOK P f args [] v h') (ha : plainVs args = true) (hv : plainV v = true) (h : List Blk) : FnOK P f args h v h := by
  intro E W hh _
  obtain ⟨e1, e2⟩ := plainVs_conc (E := E) (E' := E) (n := 0) args ha
  refine (hf E W ⟨fun b blk hb => by simp at hb, fun b b' blk blk' hb => by simp at hb⟩ e2).mono ?_
  rintro e W' ⟨x, E', rfl, hx, hh', ht⟩
  have hnm : ∀ k, ¬ Mine E ([] : List Blk) k := fun k ⟨b, blk, hb, _⟩ => by simp at hb
  have hkeep : ∀ k, k < W.heap.size → W'.heap[k]? = W.heap[k]? := fun k hk => ht.frame k hk (hnm k)
  obtain ⟨e3, e4⟩ := plainV_conc (E := E') (E' := E) (n := h.length) v hv
  have hnt : v ≠ .top := fun e => by subst e; simp [plainV] at hv
  refine ⟨x, E, rfl, .inr ⟨e4, by rw [(hx.val hnt).1, e3]⟩, hh.keep (Agree.refl _ _) hkeep, ⟨Agree.refl _ _, Nat.le_refl _, fun k hk => .inl hk, fun k hk _ => hkeep k hk, ht.size, ht.os, ht.tape, ht.output⟩⟩

end
end Go.Eng

/- ENGINE, PART 10: functions that are known by their results alone. -/
namespace Go.Eng
open Go

/-- Results of functions that look at no memory of the caller's. -/
abbrev PTab := FuncId → List V → Option (Bool × V)
def FnPure (P : Program) (f : FuncId) (args : List V) (v : V) : Prop := Enterable P f ∧ ∀ h, FnOK P f args h v h
def PTabOk (P : Program) (T : PTab) : Prop := ∀ f args c v, T f args = some (c, v) → c = true → FnPure P f args v
def oracleOf (T : PTab) : Oracle := fun _ t args _ K => match t with
  | .fn f => match T f args with
    | some (c, v) => cond c (K v [] .none) none
    | none => none
  | .yield _ => none
theorem oracleOf_ok {P : Program} {T : PTab} (hT : PTabOk P T) : OracleOk P (oracleOf T) := by
  intro R t args h K r hr
  unfold oracleOf at hr
  split at hr
  · rename_i f
    split at hr
    · rename_i c v hv
      cases c with
      | false => cases hr
      | true =>
        obtain ⟨h1, h2⟩ := hT f args true v hv rfl
        exact ⟨v, [], .none, hr, fun _ hx => (by cases hx), h1, fun h2' _ => h2 h2', fun _ _ he => (by cases he)⟩
    · cases hr
  · cases hr
def emptyTab : PTab := fun _ _ => none
theorem emptyTab_ok {P : Program} : PTabOk P emptyTab := fun _ _ _ _ h => by cases h
/-- One function more. -/
def addTab (f : FuncId) (g : List V → Option (Bool × V)) (T : PTab) : PTab := fun f' args => cond (Nat.beq f' f) (g args) (T f' args)
theorem addTab_ok {P : Program} {T : PTab} {f : FuncId} {g : List V → Option (Bool × V)} (hg : ∀ args c v, g args = some (c, v) → c = true → FnPure P f args v) (hT : PTabOk P T) : PTabOk P (addTab f g T) := by
  intro f' args c v h hc
  unfold addTab at h
  cases hb : Nat.beq f' f with
  | true =>
    rw [hb] at h
    have := Nat.eq_of_beq_eq_true hb
    subst this
    exact hg args c v h hc
  | false => rw [hb] at h; exact hT f' args c v h hc

def enterB (fn : Func) : Bool := !(fn.name == "runtime.NumGoroutine") && fn.body.isSome
theorem Enterable.of {P : Program} {f : FuncId} {fn : Func} (hf : P.funcs[f]? = some fn) (hb : enterB fn = true) : Enterable P f := by
  unfold enterB at hb
  simp only [Bool.and_eq_true, Bool.not_eq_eq_eq_not, Bool.not_true] at hb
  refine ⟨fn, hf, hb.1, ?_⟩
  cases h : fn.body with
  | none => rw [h] at hb; simp at hb
  | some c => rfl

/-- What the engine has found for a function over plain values. -/
theorem fnPure_of_eval {P : Program} {C : Oracle} {L : Loops} {N : Nat} {f : FuncId} {fn : Func} {args : List V} {v : V} (hC : OracleOk P C) (hm : P.follows .mixedOrders = true) (hf : P.funcs[f]? = some fn) (hb : enterB fn = true)
    (hL : loopsOk P L) (h : evalFn P C L N f fn args [] (fun v _ => some v) = some v) (ha : plainVs args = true) (hv : plainV v = true) : FnPure P f args v := by
  obtain ⟨v', h', hk, hok⟩ := evalFn_ok hC hm hf hL h
  injection hk with hk
  subst hk
  exact ⟨.of hf hb, fun h => hok.pure ha hv h⟩
end Go.Eng

/- ENGINE, PART 11: functions and rounds walked where they are called. -/
namespace Go.Eng
open Go

def setPs : List Tmp → List V → List V → List V
  | p :: ps, x :: xs, tmps => setPs ps xs (setV tmps p x)
  | _, _, tmps => tmps

/-- Functions by their numbers. -/
abbrev FTab := FuncId → Option Func
def FTabOk (P : Program) (F : FTab) : Prop := ∀ f fn, F f = some fn → P.funcs[f]? = some fn

def inl (P : Program) (F : FTab) (T : PTab) (LL : FuncId → Loops) (N : Nat) (pu dom : FuncId → Bool) (pre : Oracle) : Nat → Oracle
  | 0 => oracleOf T
  | d + 1 => fun R t args h K => match t with
    | .fn f => match T f args with
      | some (c, v) => cond c (K v [] .none) none
      | none => match dom f with
       | true => pre R (.fn f) args h K
       | false => match F f with
        | some fn => match enterB fn with
          | true => match pu f && plainVs args with
            | true => evalFn P (inl P F T LL N pu dom pre d) (LL f) N f fn args [] (fun v _ => match plainV v with
              | true => K v [] .none
              | false => none)
            | false => evalFn P (inl P F T LL N pu dom pre d) (LL f) N f fn args h (fun v h' => K v [] (.all h'))
          | false => none
        | none => none
    | .yield b => match getB h b with
      | .loopB .ready me tmps ps assign body _ => match Nat.beq args.length ps.length with
        | true => evalCode P (inl P F T LL N pu dom pre d) (LL me) N h.length (some b) me assign ⟨setPs ps args tmps, h, []⟩ (fun e s => match e with
          | .normal => match getB s.heap b with
            | .loopB .ready m1 t1 p1 a1 c1 d1 => evalCode P (inl P F T LL N pu dom pre d) (LL me) N h.length (some b) me body ⟨s.tmps, setB s.heap b (.loopB .busy m1 t1 p1 a1 c1 d1), s.marks⟩ (fun e s => match getB s.heap b with
              | .loopB .busy m t p x c dd => match e with
                | .normal => K (.bool true) [] (.all (setB s.heap b (.loopB .ready m t p x c dd)))
                | e => K (.bool false) [] (.all (setB s.heap b (.loopB (.done e) m t p x c dd)))
              | _ => none)
            | _ => none
          | _ => none)
        | false => none
      | _ => none

section
variable {P : Program}

/-- A range over a function changes where it stands. -/
theorem Holds.setLoop {E : Env} {h : List Blk} {W : World} (hh : Holds E h W) {b : Nat} {st st' : LSt} {me : FuncId} {tmps : List V} {ps : List Tmp} {assign body : Code} {d : Nat} (hb : h[b]? = some (.loopB st me tmps ps assign body d)) {fn : FuncId} {vs : Array Value}
    (hv : vs.size = tmps.length ∧ ∀ (i : Nat) (v : V), tmps[i]? = some v → ∃ x, vs[i]? = some x ∧ VR E h.length v x) :
    Holds E (setB h b (.loopB st' me tmps ps assign body d)) (World.putObj W (E.blk b) (.loop { state := st'.state, pending := st'.pending, fn, tmps := vs, params := ps.toArray, assign, body, defers := E.blk d })) ∧
    Trans E h W E (setB h b (.loopB st' me tmps ps assign body d)) (World.putObj W (E.blk b) (.loop { state := st'.state, pending := st'.pending, fn, tmps := vs, params := ps.toArray, assign, body, defers := E.blk d })) := by
  obtain ⟨hd, fn0, vs0, _, hc⟩ := hh.ok b _ hb
  refine hh.write (blk' := .loopB st' me tmps ps assign body d) hb rfl rfl rfl rfl ⟨hd, fn, vs, hv, ?_⟩
  exact World.putObj_heap_same (Array.getElem?_eq_some_iff.1 hc).1

theorem setPs_ok {E : Env} {n : Nat} : ∀ {ps : List Tmp} {args : List V} {tmps : List V} {vs : Array Value}, inSs n args = true →
    (vs.size = tmps.length ∧ ∀ (i : Nat) (v : V), tmps[i]? = some v → ∃ x, vs[i]? = some x ∧ VR E n v x) →
    (((ps.zip (concs E args)).foldl (fun (t : Array Value) (x : Tmp × Value) => t.setIfInBounds x.1 x.2) vs).size = (setPs ps args tmps).length ∧
      ∀ (i : Nat) (v : V), (setPs ps args tmps)[i]? = some v → ∃ x, ((ps.zip (concs E args)).foldl (fun (t : Array Value) (x : Tmp × Value) => t.setIfInBounds x.1 x.2) vs)[i]? = some x ∧ VR E n v x)
  | [], args, tmps, vs, _, h => by simpa [setPs] using h
  | p :: ps, [], tmps, vs, _, h => by simpa [setPs, concs] using h
  | p :: ps, v :: args, tmps, vs, hin, h => by
    simp only [inSs, Bool.and_eq_true] at hin
    simp only [setPs, concs, List.zip_cons_cons, List.foldl_cons]
    refine setPs_ok hin.2 ⟨by simp [setV_eq, h.1], fun i u hi => ?_⟩
    rw [setV_eq] at hi
    by_cases hp : p = i
    · subst hp
      rcases Nat.lt_or_ge p tmps.length with hlt | hge
      · rw [List.getElem?_set_self hlt] at hi
        injection hi with hi; subst hi
        exact ⟨conc E v, by rw [Array.getElem?_setIfInBounds_self_of_lt (by rw [h.1]; exact hlt)], VR.of hin.1⟩
      · rw [List.getElem?_eq_none (by simpa using hge)] at hi; cases hi
    · rw [List.getElem?_set_ne hp] at hi
      obtain ⟨y, hy, hr⟩ := h.2 i u hi
      exact ⟨y, by rw [Array.getElem?_setIfInBounds_ne hp]; exact hy, hr⟩

theorem concs_length (E : Env) (l : List V) : (concs E l).length = l.length := by rw [concs_eq, List.length_map]

theorem inl_ok {F : FTab} {T : PTab} {LL : FuncId → Loops} {N : Nat} {pu dom : FuncId → Bool} {pre : Oracle} (hP : OracleOk P pre) (hF : FTabOk P F) (hT : PTabOk P T) (hL : ∀ f, loopsOk P (LL f)) (hm : P.follows .mixedOrders = true) : ∀ d, OracleOk P (inl P F T LL N pu dom pre d)
  | 0 => oracleOf_ok hT
  | d + 1 => by
    have ih := inl_ok (N := N) (pu := pu) (dom := dom) hP hF hT hL hm d
    intro R t args h K r hr
    unfold inl at hr
    split at hr
    · rename_i f
      split at hr
      · rename_i c v hv
        cases c with
        | false => cases hr
        | true =>
          obtain ⟨h1, h2⟩ := hT f args true v hv rfl
          exact ⟨v, [], .none, hr, fun _ hx => (by cases hx), h1, fun h2' _ => h2 h2', fun _ _ he => (by cases he)⟩
      · split at hr
        · exact hP R (.fn f) args h K r hr
        split at hr
        · rename_i fn hfn
          split at hr
          · rename_i hen
            split at hr
            · rename_i hpl
              simp only [Bool.and_eq_true] at hpl
              obtain ⟨v, h', hk, hok⟩ := evalFn_ok ih hm (hF f fn hfn) (hL f) hr
              split at hk
              · rename_i hpv
                exact ⟨v, [], .none, hk, fun _ hx => (by cases hx), .of (hF f fn hfn) hen, fun h2 _ => hok.pure hpl.2 hpv h2, fun _ _ he => (by cases he)⟩
              · cases hk
            · obtain ⟨v, h', hk, hok⟩ := evalFn_ok ih hm (hF f fn hfn) (hL f) hr
              exact ⟨v, [], .all h', hk, rfl, .of (hF f fn hfn) hen, fun h2 hs => (by rw [show h2 = h from hs]; exact hok), fun _ _ he => (by cases he)⟩
          · cases hr
        · cases hr
    · rename_i b
      split at hr
      · rename_i me tmps ps assign body dd hb
        have hb := getB_some hb (by simp)
        split at hr
        · rename_i hlen
          have hlen := Nat.eq_of_beq_eq_true hlen
          obtain ⟨e1, s1, hk1, hsim1⟩ := evalCode_ok ih hm (hL me) hr
          cases e1 with
          | exit id => cases hk1
          | ret => cases hk1
          | normal =>
            simp only at hk1
            split at hk1
            · rename_i m1 t1 p1 a1 c1 d1 hb1
              have hb1 := getB_some hb1 (by simp)
              obtain ⟨e2, s2, hk2, hsim2⟩ := evalCode_ok ih hm (hL me) hk1
              split at hk2
              · rename_i m2 t2 p2 a2 c2 d2 hb2
                have hb2 := getB_some hb2 (by simp)
                -- what is claimed, whatever way the body was left
                have main : ∀ (st : LSt) (v : Bool), ((e2 = .normal ∧ st = .ready ∧ v = true) ∨ (e2 ≠ .normal ∧ st = .done e2 ∧ v = false)) → RoundOK P b args h (.bool v) (setB s2.heap b (.loopB st m2 t2 p2 a2 c2 d2)) := by
                  intro st v hcase E W hh hin hlt
                  obtain ⟨hd0, fn0, vs0, hvs0, hc0⟩ := hh.ok b _ hb
                  have hrdy : LSt.ready.state = .ready := rfl
                  have hy := run_yield (P := P) (args := (concs E args).toArray) hc0 (by simp [concs_length, hlen])
                  refine ⟨_, _, _, _, hy, roundIn_of_wpIn trivial ?_⟩
                  have hset := setPs_ok (E := E) (ps := ps) (args := args) hin hvs0
                  have hs0 : StOk E ⟨setPs ps args tmps, h, []⟩ { tmps := (ps.toArray.zip (concs E args).toArray).foldl (fun tmps (x : Tmp × Value) => tmps.setIfInBounds x.1 x.2) vs0, defers := [] } W := by
                    have e0 : (ps.toArray.zip (concs E args).toArray).foldl (fun (tmps : Array Value) (x : Tmp × Value) => tmps.setIfInBounds x.1 x.2) vs0 = (ps.zip (concs E args)).foldl (fun (t : Array Value) (x : Tmp × Value) => t.setIfInBounds x.1 x.2) vs0 := by simp
                    exact ⟨by rw [e0]; exact hset.1, by rw [e0]; exact hset.2, rfl, fun _ hb => (by cases hb), hh⟩
                  have hrd0 : RdOk E h.length (some (E.blk b)) (some b) := ⟨hlt, rfl⟩
                  refine wpIn_mono (hsim1 (some (E.blk b)) E _ W hs0 hrd0 (Nat.le_refl _)) ?_
                  rintro e' a1' W1 ⟨rfl, E1, hs1, htn1⟩
                  have ht1 := htn1.full
                  have hrd1 := hrd0.agree ht1.agree (Nat.le_refl _)
                  have hblk1 : E1.blk b = E.blk b := ht1.agree.blk b hlt
                  obtain ⟨hd1, fn1, vs1, hvs1, hc1⟩ := hs1.heap.ok b _ hb1
                  obtain ⟨q1, q2⟩ := hs1.heap.setLoop (st' := .busy) hb1 (fn := fn1) hvs1
                  have hbr : (Instr.beginRound (E.blk b)).run P W1 = .ok () (World.putObj W1 (E1.blk b) (.loop { state := LSt.busy.state, pending := LSt.busy.pending, fn := fn1, tmps := vs1, params := p1.toArray, assign := a1, body := c1, defers := E1.blk d1 })) := by
                    have := run_beginRound (P := P) hc1 rfl
                    rw [hblk1] at this ⊢
                    exact this
                  refine ⟨_, hbr, ?_⟩
                  have hs1' : StOk E1 ⟨s1.tmps, setB s1.heap b (.loopB .busy m1 t1 p1 a1 c1 d1), s1.marks⟩ a1' _ :=
                    ⟨hs1.size, fun i v hi => by
                      obtain ⟨x, hx, hr⟩ := hs1.slots i v hi
                      exact ⟨x, hx, by rw [setB_len]; exact hr⟩, hs1.defers, fun x hx => by rw [setB_len]; exact hs1.scope x hx, q1⟩
                  refine wpIn_mono (hsim2 (some (E.blk b)) E1 a1' _ hs1' hrd1 (by rw [setB_len]; exact ht1.len)) ?_
                  rintro e' a2' W2 ⟨rfl, E2, hs2, ht2⟩
                  have hlt1 : b < h.length := hrd1.1
                  have hblk2 : E2.blk b = E.blk b := by rw [ht2.agree.blk b hlt1, hblk1]
                  obtain ⟨hd2, fn2, vs2, hvs2, hc2⟩ := hs2.heap.ok b _ hb2
                  have fin : ∀ jump, st.pending = jump → v = jump.isNone → st.state = (if jump.isNone then .ready else .done) →
                      ∃ v' w', (Instr.endRound (E.blk b) jump).run P W2 = .ok v' w' ∧ EndsIn E W h (.bool v) (setB s2.heap b (.loopB st m2 t2 p2 a2 c2 d2)) (.returned v') w' := by
                    intro jump hj hv hst
                    obtain ⟨q3, q4⟩ := hs2.heap.setLoop (st' := st) hb2 (fn := fn2) hvs2
                    have hend := run_endRound (P := P) jump hc2
                    rw [hblk2] at hend
                    rw [hblk2, hj, hst] at q3 q4
                    refine ⟨_, _, hend, _, E2, rfl, ?_, q3, (((htn1.trans (q2.to ht1.len)).trans ht2).trans (q4.to ht2.len)).full⟩
                    rw [hv]; exact VR.mkBool
                  cases e2 with
                  | normal =>
                    rcases hcase with ⟨_, rfl, rfl⟩ | ⟨hne, _⟩
                    · exact fin none rfl rfl rfl
                    · exact absurd rfl hne
                  | exit id =>
                    rcases hcase with ⟨he, _⟩ | ⟨_, rfl, rfl⟩
                    · cases he
                    · exact fin (some (.exit id)) rfl rfl rfl
                  | ret =>
                    rcases hcase with ⟨he, _⟩ | ⟨_, rfl, rfl⟩
                    · cases he
                    · exact fin (some .ret) rfl rfl rfl
                split at hk2
                · exact ⟨_, _, _, hk2, rfl, trivial, fun h2 hs => (by rw [show h2 = h from hs]; exact main .ready true (.inl ⟨rfl, rfl, rfl⟩)), fun _ _ he => (by cases he)⟩
                · rename_i hne
                  exact ⟨_, _, _, hk2, rfl, trivial, fun h2 hs => (by rw [show h2 = h from hs]; exact main (.done e2) false (.inr ⟨fun h => hne h, rfl, rfl⟩)), fun _ _ he => (by cases he)⟩
              · cases hk2
            · cases hk1
        · cases hr
      · cases hr
end
end Go.Eng

/- ENGINE, PART 11b: other names for blocks. -/
namespace Go.Eng
open Go

mutual
def renV (ρ : Nat → Nat) : V → V
  | .ptr b off => .ptr (ρ b) off
  | .view b l sz len => .view (ρ b) l sz len
  | .aslice b off len cap => .aslice (ρ b) off len cap
  | .gs b => .gs (ρ b)
  | .yield b => .yield (ρ b)
  | .func f l => .func f (renVs ρ l)
  | .agg l => .agg (renVs ρ l)
  | .tuple l => .tuple (renVs ρ l)
  | v => v
def renVs (ρ : Nat → Nat) : List V → List V
  | [] => []
  | v :: r => renV ρ v :: renVs ρ r
end
def Env.ren (E : Env) (ρ : Nat → Nat) : Env := { blk := fun b => E.blk (ρ b), delta := fun b => E.delta (ρ b), len := fun b => E.len (ρ b), cap := fun b => E.cap (ρ b), isnil := fun b => E.isnil (ρ b), base := fun b => E.base (ρ b) }
mutual
theorem conc_ren (E : Env) (ρ : Nat → Nat) : ∀ v, conc (E.ren ρ) v = conc E (renV ρ v)
  | .bool _ | .int _ _ | .str _ | .flat _ | .glob _ _ | .top => by simp [conc, renV]
  | .ptr b off => rfl
  | .view b l sz len => rfl
  | .aslice b off len cap => rfl
  | .gs b => rfl
  | .yield b => rfl
  | .func f l => by simp only [conc, renV, concs_ren E ρ l]
  | .agg l => by simp only [conc, renV, concs_ren E ρ l]
  | .tuple l => by simp only [conc, renV, concs_ren E ρ l]
theorem concs_ren (E : Env) (ρ : Nat → Nat) : ∀ l, concs (E.ren ρ) l = concs E (renVs ρ l)
  | [] => rfl
  | v :: r => by simp only [concs, renVs, conc_ren E ρ v, concs_ren E ρ r]
end
theorem Agree.ren {n : Nat} {E : Env} {ρ : Nat → Nat} (h : ∀ b, b < n → ρ b = b) : Agree n E (E.ren ρ) :=
  ⟨fun b hb => by simp [Env.ren, h b hb], fun b hb => by simp [Env.ren, h b hb], fun b hb => by simp [Env.ren, h b hb], fun b hb => by simp [Env.ren, h b hb], fun b hb => by simp [Env.ren, h b hb], fun b hb => by simp [Env.ren, h b hb]⟩
end Go.Eng
