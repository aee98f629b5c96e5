/- ENGINE, PART 1: abstract values, abstract heaps, and how they stand for the values and the memory of the model. -/
import Derived.Orders
import Derived.Laws.World
import Derived.Laws.Sem
import Derived.Laws.Tables
namespace Go.Eng
open Go

/-- Abstract values. A pointer names an abstract block. -/
inductive V where
  | bool (b : Bool)
  | int (k : IntKind) (n : Int)
  | str (s : ByteArray)
  | ptr (b off : Nat)
  | glob (g off : Nat)
  | view (b l sz len : Nat)
  | aslice (b off len cap : Nat)
  | gs (b : Nat)
  | flat (v : Value)
  | yield (b : Nat)
  | func (f : FuncId) (caps : List V)
  | agg (l : List V)
  | tuple (l : List V)
  | top

/-- Where the abstract blocks lie. -/
structure Env where
  blk : Nat → Nat
  delta : Nat → Nat
  len : Nat → Nat
  cap : Nat → Nat
  isnil : Nat → Bool
  base : Nat → Option Addr

mutual
def conc (E : Env) : V → Value
  | .bool b => .bool b
  | .int k n => .int k n
  | .str s => .string s
  | .ptr b off => .pointer (some ⟨E.blk b, E.delta b + off, none⟩)
  | .glob g off => .pointer (some ⟨g, off, none⟩)
  | .aslice b off len cap => .slice (some ⟨E.blk b, E.delta b + off, none⟩) len cap
  | .view b l sz len => bif E.isnil b then .slice (E.base b) len 0 else .slice (some (if E.cap b = l then ⟨E.blk b, E.delta b, none⟩ else ⟨E.blk b, E.delta b + l * sz, none⟩)) len (E.cap b - l)
  | .gs b => bif E.isnil b then .slice (E.base b) 0 0 else .slice (some ⟨E.blk b, E.delta b, none⟩) (E.len b) (E.cap b)
  | .flat v => v
  | .yield b => .func (.yield (E.blk b)) #[] #[]
  | .func f caps => .func (.func f) #[] (concs E caps).toArray
  | .agg l => .agg (concs E l).toArray
  | .tuple l => .tuple (concs E l).toArray
  | .top => undef
def concs (E : Env) : List V → List Value
  | [] => []
  | v :: r => conc E v :: concs E r
end

mutual
def inS (n : Nat) : V → Bool
  | .ptr b _ => Nat.blt b n
  | .view b _ _ _ => Nat.blt b n
  | .aslice b _ _ _ => Nat.blt b n
  | .gs b => Nat.blt b n
  | .yield b => Nat.blt b n
  | .func _ caps => inSs n caps
  | .agg l => inSs n l
  | .tuple l => inSs n l
  | .top => false
  | _ => true
def inSs (n : Nat) : List V → Bool
  | [] => true
  | v :: r => inS n v && inSs n r
end

theorem concs_eq (E : Env) (l : List V) : concs E l = l.map (conc E) := by
  induction l with
  | nil => rfl
  | cons v r ih => simp [concs, ih]
theorem inSs_eq (n : Nat) (l : List V) : inSs n l = l.all (inS n) := by
  induction l with
  | nil => rfl
  | cons v r ih => simp [inSs, ih]

/-- Two environments that agree on the blocks below n. -/
structure Agree (n : Nat) (E E' : Env) : Prop where
  blk : ∀ b, b < n → E'.blk b = E.blk b
  delta : ∀ b, b < n → E'.delta b = E.delta b
  len : ∀ b, b < n → E'.len b = E.len b
  cap : ∀ b, b < n → E'.cap b = E.cap b
  isnil : ∀ b, b < n → E'.isnil b = E.isnil b
  base : ∀ b, b < n → E'.base b = E.base b

theorem Agree.refl (n : Nat) (E : Env) : Agree n E E := ⟨fun _ _ => rfl, fun _ _ => rfl, fun _ _ => rfl, fun _ _ => rfl, fun _ _ => rfl, fun _ _ => rfl⟩
theorem Agree.trans {n m : Nat} {E E' E'' : Env} (h : Agree n E E') (h' : Agree m E' E'') (hm : n ≤ m) : Agree n E E'' :=
  ⟨fun b hb => (h'.blk b (by omega)).trans (h.blk b hb), fun b hb => (h'.delta b (by omega)).trans (h.delta b hb), fun b hb => (h'.len b (by omega)).trans (h.len b hb),
   fun b hb => (h'.cap b (by omega)).trans (h.cap b hb), fun b hb => (h'.isnil b (by omega)).trans (h.isnil b hb), fun b hb => (h'.base b (by omega)).trans (h.base b hb)⟩

mutual
theorem conc_agree {n : Nat} {E E' : Env} (h : Agree n E E') : ∀ v, inS n v = true → conc E' v = conc E v
  | .bool _, _ | .int _ _, _ | .str _, _ | .flat _, _ | .glob _ _, _ => by simp [conc]
  | .ptr b off, hs => by simp [inS] at hs; simp [conc, h.blk b hs, h.delta b hs]
  | .view b l sz len, hs => by simp [inS] at hs; simp [conc, h.blk b hs, h.delta b hs, h.cap b hs, h.isnil b hs, h.base b hs]
  | .aslice b off len cap, hs => by simp [inS] at hs; simp [conc, h.blk b hs, h.delta b hs]
  | .gs b, hs => by simp [inS] at hs; simp [conc, h.blk b hs, h.delta b hs, h.len b hs, h.cap b hs, h.isnil b hs, h.base b hs]
  | .yield b, hs => by simp [inS] at hs; simp [conc, h.blk b hs]
  | .func f caps, hs => by simp only [conc]; rw [concs_agree h caps (by simpa [inS] using hs)]
  | .agg l, hs => by simp only [conc]; rw [concs_agree h l (by simpa [inS] using hs)]
  | .tuple l, hs => by simp only [conc]; rw [concs_agree h l (by simpa [inS] using hs)]
  | .top, hs => by simp [inS] at hs
theorem concs_agree {n : Nat} {E E' : Env} (h : Agree n E E') : ∀ l, inSs n l = true → concs E' l = concs E l
  | [], _ => rfl
  | v :: r, hs => by
    simp only [inSs, Bool.and_eq_true] at hs
    simp only [concs]; rw [conc_agree h v hs.1, concs_agree h r hs.2]
end
mutual
theorem inS_mono {n m : Nat} (h : n ≤ m) : ∀ v, inS n v = true → inS m v = true
  | .bool _, _ | .int _ _, _ | .str _, _ | .flat _, _ | .glob _ _, _ => by simp [inS]
  | .ptr b off, hs => by simp [inS] at *; omega
  | .view b l sz len, hs => by simp [inS] at *; omega
  | .aslice b off len cap, hs => by simp [inS] at *; omega
  | .gs b, hs => by simp [inS] at *; omega
  | .yield b, hs => by simp [inS] at *; omega
  | .func f caps, hs => by simp only [inS] at *; exact inSs_mono h caps hs
  | .agg l, hs => by simp only [inS] at *; exact inSs_mono h l hs
  | .tuple l, hs => by simp only [inS] at *; exact inSs_mono h l hs
  | .top, hs => by simp [inS] at hs
theorem inSs_mono {n m : Nat} (h : n ≤ m) : ∀ l, inSs n l = true → inSs m l = true
  | [], _ => rfl
  | v :: r, hs => by
    simp only [inSs, Bool.and_eq_true] at *
    exact ⟨inS_mono h v hs.1, inSs_mono h r hs.2⟩
end

/-- A value of the model stands for an abstract one. -/
def VR (E : Env) (n : Nat) (v : V) (x : Value) : Prop := v = .top ∨ (inS n v = true ∧ x = conc E v)
theorem VR.mono {E E' : Env} {n m : Nat} {v : V} {x : Value} (h : VR E n v x) (hE : Agree n E E') (hm : n ≤ m) : VR E' m v x := by
  rcases h with h | ⟨h1, h2⟩
  · exact .inl h
  · exact .inr ⟨inS_mono hm v h1, by rw [h2, conc_agree hE v h1]⟩

/-- The cells of a block. -/
inductive Row where
  | vs (l : List V)
  | ints (k : IntKind) (l : List Int)
  | strs (l : List ByteArray)
def Row.toVs : Row → List V
  | .vs l => l
  | .ints k l => l.map (.int k)
  | .strs l => l.map .str
def Row.len : Row → Nat
  | .vs l => l.length
  | .ints _ l => l.length
  | .strs l => l.length
theorem Row.len_eq (r : Row) : r.len = r.toVs.length := by cases r <;> simp [Row.len, Row.toVs]

/-- How a piece of code is left. -/
inductive XE where
  | normal
  | exit (id : Nat)
  | ret
def XE.toExit : XE → Exit
  | .normal => .normal
  | .exit id => .exit id
  | .ret => .ret
def XE.code : XE → Code
  | .normal => .skip
  | .exit id => .exit id
  | .ret => .ret
/-- Where a range over a function stands. -/
inductive LSt where
  | ready
  | busy
  | done (e : XE)
def LSt.state : LSt → LoopState
  | .ready => .ready
  | .busy => .busy
  | .done _ => .done
def LSt.pending : LSt → Option Code
  | .done e => some e.code
  | _ => none

inductive Blk where
  | dead
  | defs
  | loopB (st : LSt) (me : FuncId) (tmps : List V) (ps : List Tmp) (assign body : Code) (d : Nat)
  | ro (row : Row)
  | glob (g : Nat) (row : Row)
  | rs (nn : Bool) (sz : Nat) (row : Row)
  | own (ty : TypeId) (row : Row)
  | grow (nn : Bool) (ty : TypeId) (sz : Nat) (row : Row)

def Blk.mine : Blk → Bool
  | .own .. | .grow .. | .defs | .loopB .. => true
  | _ => false
def Blk.row : Blk → Row
  | .dead | .defs | .loopB .. => .vs []
  | .ro r | .glob _ r | .rs _ _ r | .own _ r | .grow _ _ _ r => r

/-- A frozen range that lies behind the cells. -/
def thawed (fz : Nat × Nat) (n : Nat) : Prop := ∀ o, o < n → ¬ (fz.1 ≤ o ∧ o < fz.2)

/-- What a block says of the memory. -/
def BlkOk (E : Env) (n : Nat) (W : World) (b : Nat) : Blk → Prop
  | .dead => True
  | .defs => W.heap[E.blk b]? = some (.deferred (some []))
  | .loopB st _ tmps ps assign body d => d < n ∧ ∃ (fn : FuncId) (vs : Array Value), (vs.size = tmps.length ∧ ∀ (i : Nat) (v : V), tmps[i]? = some v → ∃ x, vs[i]? = some x ∧ VR E n v x) ∧
      W.heap[E.blk b]? = some (.loop { state := st.state, pending := st.pending, fn, tmps := vs, params := ps.toArray, assign, body, defers := E.blk d })
  | .ro row => inSs n row.toVs = true ∧ ∀ i v, row.toVs[i]? = some v → W.cell? ⟨E.blk b, E.delta b + i, none⟩ = some (conc E v)
  | .glob g row => E.blk b = g ∧ E.delta b = 0 ∧ inSs n row.toVs = true ∧ ∀ i v, row.toVs[i]? = some v → W.cell? ⟨E.blk b, E.delta b + i, none⟩ = some (conc E v)
  | .rs nn sz row => inSs n row.toVs = true ∧ 0 < sz ∧ E.len b * sz = row.len ∧ E.len b ≤ E.cap b ∧ (E.isnil b = true → row.len = 0 ∧ nn = false) ∧
      (E.isnil b = false → ∀ i v, row.toVs[i]? = some v → W.cell? ⟨E.blk b, E.delta b + i, none⟩ = some (conc E v))
  | .own ty row => E.delta b = 0 ∧ inSs n row.toVs = true ∧ ∃ fz, thawed fz row.len ∧ W.heap[E.blk b]? = some (.cells (concs E row.toVs).toArray ty fz)
  | .grow nn ty sz row => E.delta b = 0 ∧ inSs n row.toVs = true ∧ 0 < sz ∧ E.len b * sz = row.len ∧ E.len b ≤ E.cap b ∧ (E.isnil b = true → row.len = 0 ∧ nn = false) ∧
      (E.isnil b = false → ∃ fz spare, thawed fz (row.len + spare.length) ∧ row.len + spare.length = E.cap b * sz ∧
        W.heap[E.blk b]? = some (.cells (concs E row.toVs ++ spare).toArray ty fz))

/-- The block is really there. -/
def liveAt (E : Env) (b : Nat) : Blk → Bool
  | .dead => false
  | .grow .. => !E.isnil b
  | .ro row => !row.toVs.isEmpty
  | .glob _ row => !row.toVs.isEmpty
  | .rs _ _ row => !E.isnil b && !row.toVs.isEmpty
  | _ => true

def Mine (E : Env) (h : List Blk) (k : Nat) : Prop := ∃ b blk, h[b]? = some blk ∧ blk.mine = true ∧ liveAt E b blk = true ∧ E.blk b = k

structure Holds (E : Env) (h : List Blk) (W : World) : Prop where
  ok : ∀ b blk, h[b]? = some blk → BlkOk E h.length W b blk
  inj : ∀ b b' blk blk', h[b]? = some blk → h[b']? = some blk' → blk.mine = true → liveAt E b blk = true → liveAt E b' blk' = true → E.blk b = E.blk b' → b = b'

/-- From one abstract heap to another one, the memory having gone from W to W'. -/
structure Trans (E : Env) (h : List Blk) (W : World) (E' : Env) (h' : List Blk) (W' : World) : Prop where
  agree : Agree h.length E E'
  len : h.length ≤ h'.length
  mine : ∀ k, Mine E' h' k → Mine E h k ∨ W.heap.size ≤ k
  frame : ∀ k, k < W.heap.size → ¬ Mine E h k → W'.heap[k]? = W.heap[k]?
  size : W.heap.size ≤ W'.heap.size
  os : W'.os = W.os
  tape : W'.tape = W.tape
  output : W'.output = W.output

theorem Trans.refl (E : Env) (h : List Blk) (W : World) : Trans E h W E h W :=
  ⟨Agree.refl _ _, Nat.le_refl _, fun _ hk => .inl hk, fun _ _ _ => rfl, Nat.le_refl _, rfl, rfl, rfl⟩
theorem Trans.trans {E E' E'' : Env} {h h' h'' : List Blk} {W W' W'' : World} (a : Trans E h W E' h' W') (b : Trans E' h' W' E'' h'' W'') : Trans E h W E'' h'' W'' :=
  ⟨a.agree.trans b.agree a.len, Nat.le_trans a.len b.len,
   fun k hk => by
     rcases b.mine k hk with h1 | h1
     · exact a.mine k h1
     · exact .inr (Nat.le_trans a.size h1),
   fun k hk hn => by
     rw [b.frame k (Nat.lt_of_lt_of_le hk a.size) (fun hm => by
       rcases a.mine k hm with h1 | h1
       · exact hn h1
       · omega)]
     exact a.frame k hk hn,
   Nat.le_trans a.size b.size, b.os.trans a.os, b.tape.trans a.tape, b.output.trans a.output⟩

theorem Agree.mono {n m : Nat} {E E' : Env} (h : Agree n E E') (hm : m ≤ n) : Agree m E E' :=
  ⟨fun b hb => h.blk b (by omega), fun b hb => h.delta b (by omega), fun b hb => h.len b (by omega), fun b hb => h.cap b (by omega), fun b hb => h.isnil b (by omega), fun b hb => h.base b (by omega)⟩
/-- The same, but that only the first n blocks keep their names. -/
structure TransN (n : Nat) (E : Env) (h : List Blk) (W : World) (E' : Env) (h' : List Blk) (W' : World) : Prop where
  agree : Agree n E E'
  len : n ≤ h'.length
  mine : ∀ k, Mine E' h' k → Mine E h k ∨ W.heap.size ≤ k
  frame : ∀ k, k < W.heap.size → ¬ Mine E h k → W'.heap[k]? = W.heap[k]?
  size : W.heap.size ≤ W'.heap.size
  os : W'.os = W.os
  tape : W'.tape = W.tape
  output : W'.output = W.output
theorem Trans.to {n : Nat} {E E' : Env} {h h' : List Blk} {W W' : World} (t : Trans E h W E' h' W') (hn : n ≤ h.length) : TransN n E h W E' h' W' :=
  ⟨t.agree.mono hn, Nat.le_trans hn t.len, t.mine, t.frame, t.size, t.os, t.tape, t.output⟩
theorem TransN.full {E E' : Env} {h h' : List Blk} {W W' : World} (t : TransN h.length E h W E' h' W') : Trans E h W E' h' W' :=
  ⟨t.agree, t.len, t.mine, t.frame, t.size, t.os, t.tape, t.output⟩
theorem TransN.trans {n : Nat} {E E' E'' : Env} {h h' h'' : List Blk} {W W' W'' : World} (a : TransN n E h W E' h' W') (b : TransN n E' h' W' E'' h'' W'') : TransN n E h W E'' h'' W'' :=
  ⟨a.agree.trans b.agree (Nat.le_refl _), b.len,
   fun k hk => by
     rcases b.mine k hk with h1 | h1
     · exact a.mine k h1
     · exact .inr (Nat.le_trans a.size h1),
   fun k hk hn => by
     rw [b.frame k (Nat.lt_of_lt_of_le hk a.size) (fun hm => by
       rcases a.mine k hm with h1 | h1
       · exact hn h1
       · omega)]
     exact a.frame k hk hn,
   Nat.le_trans a.size b.size, b.os.trans a.os, b.tape.trans a.tape, b.output.trans a.output⟩

/-- A draw changes nothing that is looked at. -/
theorem Holds.drew {E : Env} {h : List Blk} {W : World} (hh : Holds E h W) : Holds E h W.drew :=
  ⟨fun b blk hb => by have := hh.ok b blk hb; cases blk <;> exact this, hh.inj⟩
theorem Trans.drew {E : Env} {h : List Blk} {W : World} : Trans E h W E h W.drew :=
  ⟨Agree.refl _ _, Nat.le_refl _, fun _ hk => .inl hk, fun _ _ _ => rfl, Nat.le_refl _, rfl, rfl, rfl⟩

/-- The abstract state of a function. -/
structure AS where
  tmps : List V
  heap : List Blk
  marks : List Nat
def marksOf (E : Env) : List Nat → List Deferred
  | [] => []
  | b :: r => { target := .collected (E.blk b), args := #[] } :: marksOf E r
theorem marksOf_agree {n : Nat} {E E' : Env} (h : Agree n E E') : ∀ {l : List Nat}, (∀ b ∈ l, b < n) → marksOf E' l = marksOf E l
  | [], _ => rfl
  | b :: r, hl => by simp only [marksOf]; rw [h.blk b (hl b (by simp)), marksOf_agree h (fun x hx => hl x (by simp [hx]))]

structure StOk (E : Env) (s : AS) (a : Act) (W : World) : Prop where
  size : a.tmps.size = s.tmps.length
  slots : ∀ (i : Nat) (v : V), s.tmps[i]? = some v → ∃ x, a.tmps[i]? = some x ∧ VR E s.heap.length v x
  defers : a.defers = marksOf E s.marks
  scope : ∀ b ∈ s.marks, b < s.heap.length
  heap : Holds E s.heap W

def undefV : V := .tuple []

def getV : List V → Nat → V
  | [], _ => undefV
  | v :: _, 0 => v
  | _ :: r, n + 1 => getV r n
def setV : List V → Nat → V → List V
  | [], _, _ => []
  | _ :: r, 0, v => v :: r
  | u :: r, n + 1, v => u :: setV r n v
theorem setV_eq (l : List V) (i : Nat) (v : V) : setV l i v = l.set i v := by
  induction l generalizing i with
  | nil => rfl
  | cons u r ih => cases i <;> simp [setV, ih]
theorem getV_eq (l : List V) (i : Nat) : getV l i = (l[i]?).getD undefV := by
  induction l generalizing i with
  | nil => rfl
  | cons u r ih => cases i <;> simp [getV, ih]

/-- Values that hold no pointers. -/
def ofScalar : Value → V
  | .bool b => .bool b
  | .int k n => .int k n
  | .string s => .str s
  | v => .flat v
def ofValue : Value → V
  | .agg cs => .agg (cs.toList.map ofScalar)
  | .tuple vs => .tuple (vs.toList.map ofScalar)
  | v => ofScalar v
theorem conc_ofScalar (E : Env) (v : Value) : conc E (ofScalar v) = v := by cases v <;> simp [ofScalar, conc]
theorem inS_ofScalar (n : Nat) (v : Value) : inS n (ofScalar v) = true := by cases v <;> simp [ofScalar, inS]
theorem concs_ofScalar (E : Env) (l : List Value) : concs E (l.map ofScalar) = l := by
  rw [concs_eq, List.map_map]
  have : (conc E ∘ ofScalar) = id := funext fun v => conc_ofScalar E v
  rw [this, List.map_id]
theorem inSs_ofScalar (n : Nat) (l : List Value) : inSs n (l.map ofScalar) = true := by
  rw [inSs_eq]; simp [inS_ofScalar]
theorem conc_ofValue (E : Env) (v : Value) : conc E (ofValue v) = v := by
  cases v
  case agg => simp only [ofValue, conc, concs_ofScalar, Array.toArray_toList]
  case tuple => simp only [ofValue, conc, concs_ofScalar, Array.toArray_toList]
  all_goals (simp only [ofValue]; exact conc_ofScalar E _)
theorem inS_ofValue (n : Nat) (v : Value) : inS n (ofValue v) = true := by
  cases v
  case agg => simp only [ofValue, inS, inSs_ofScalar]
  case tuple => simp only [ofValue, inS, inSs_ofScalar]
  all_goals (simp only [ofValue]; exact inS_ofScalar n _)

def evalV (tmps : List V) : Operand → V
  | .tmp t => getV tmps t
  | .const v => ofValue v
  | .global g => .glob g 0
  | .func f => .func f []

theorem StOk.eval {E : Env} {s : AS} {a : Act} {W : World} (h : StOk E s a W) (x : Operand) : VR E s.heap.length (evalV s.tmps x) (a.eval x) := by
  cases x with
  | tmp t =>
    simp only [evalV, Act.eval, getV_eq]
    cases hs : s.tmps[t]? with
    | none =>
      have : a.tmps[t]? = none := by
        rw [Array.getElem?_eq_none_iff, h.size]; exact List.getElem?_eq_none_iff.1 hs
      rw [Array.getD_eq_getD_getElem?, this]
      exact .inr ⟨by simp [undefV, inS, inSs], by simp [undefV, conc, concs, undef]⟩
    | some v =>
      obtain ⟨x, hx, hv⟩ := h.slots t v hs
      rw [Array.getD_eq_getD_getElem?, hx]
      exact hv
  | const v => exact .inr ⟨inS_ofValue _ v, (conc_ofValue E v).symm⟩
  | global g => exact .inr ⟨by simp [evalV, inS], by simp [evalV, conc, Act.eval]⟩
  | func f => exact .inr ⟨by simp [evalV, inS, inSs], by simp [evalV, conc, concs, Act.eval]⟩

def putV (tmps : List V) : Option Tmp → V → List V
  | some d, v => setV tmps d v
  | none, _ => tmps

theorem StOk.put {E E' : Env} {s : AS} {a : Act} {W W' : World} {h' : List Blk} (h : StOk E s a W) (hE : Agree s.heap.length E E') (hl : s.heap.length ≤ h'.length) (hh : Holds E' h' W') (d : Option Tmp) {v : V} {x : Value}
    (hv : VR E' h'.length v x) : StOk E' ⟨putV s.tmps d v, h', s.marks⟩ (a.put d x) W' := by
  have hdef : a.defers = marksOf E' s.marks := by rw [marksOf_agree hE h.scope]; exact h.defers
  have hsc : ∀ b ∈ s.marks, b < h'.length := fun b hb => Nat.lt_of_lt_of_le (h.scope b hb) hl
  cases d with
  | none => exact ⟨h.size, fun i u hi => by obtain ⟨y, hy, hr⟩ := h.slots i u hi; exact ⟨y, hy, hr.mono hE hl⟩, hdef, hsc, hh⟩
  | some d =>
    refine ⟨by simp [Act.put, putV, setV_eq, h.size], fun i u hi => ?_, hdef, hsc, hh⟩
    simp only [putV, setV_eq] at hi
    simp only [Act.put]
    by_cases hd : d = i
    · subst hd
      rcases Nat.lt_or_ge d s.tmps.length with hlt | hge
      · rw [List.getElem?_set_self hlt] at hi
        injection hi with hi; subst hi
        exact ⟨x, by rw [Array.getElem?_setIfInBounds_self_of_lt (by rw [h.size]; exact hlt)], hv⟩
      · rw [List.getElem?_eq_none (by simpa using hge)] at hi; cases hi
    · rw [List.getElem?_set_ne hd] at hi
      obtain ⟨y, hy, hr⟩ := h.slots i u hi
      exact ⟨y, by rw [Array.getElem?_setIfInBounds_ne hd]; exact hy, hr.mono hE hl⟩

end Go.Eng
