/- THE ENGINE, piece 0: an interpreter of the model over abstract values, proved sound. -/
import Derived.Orders
import Derived.Laws.World
import Derived.Laws.Sem
import Derived.Laws.Tables
import Derived.Laws.Cells
import Derived.Laws.StructEq
import Derived.ChangeKeysEq
import Derived.OrdersIn
/- ENGINE, PART 1: abstract values, abstract heaps, and how they stand for the values and the memory of the model. -/
namespace Go.Eng
open Go

/-- Abstract values. A pointer names an abstract block. -/
inductive V where
  | bool (b : Bool)
  | int (k : IntKind) (n : Int)
  | str (s : ByteArray)
  | ptr (b off : Nat)
  | glob (g off : Nat)
  | view (b l sz len : Nat)
  | aslice (b off len cap : Nat)
  | gs (b : Nat)
  | flat (v : Value)
  | yield (b : Nat)
  | func (f : FuncId) (caps : List V)
  | agg (l : List V)
  | tuple (l : List V)
  | top

/-- Where the abstract blocks lie. -/
structure Env where
  blk : Nat → Nat
  delta : Nat → Nat
  len : Nat → Nat
  cap : Nat → Nat
  isnil : Nat → Bool
  base : Nat → Option Addr

mutual
def conc (E : Env) : V → Value
  | .bool b => .bool b
  | .int k n => .int k n
  | .str s => .string s
  | .ptr b off => .pointer (some ⟨E.blk b, E.delta b + off, none⟩)
  | .glob g off => .pointer (some ⟨g, off, none⟩)
  | .aslice b off len cap => .slice (some ⟨E.blk b, E.delta b + off, none⟩) len cap
  | .view b l sz len => bif E.isnil b then .slice (E.base b) len 0 else .slice (some (if E.cap b = l then ⟨E.blk b, E.delta b, none⟩ else ⟨E.blk b, E.delta b + l * sz, none⟩)) len (E.cap b - l)
  | .gs b => bif E.isnil b then .slice (E.base b) 0 0 else .slice (some ⟨E.blk b, E.delta b, none⟩) (E.len b) (E.cap b)
  | .flat v => v
  | .yield b => .func (.yield (E.blk b)) #[] #[]
  | .func f caps => .func (.func f) #[] (concs E caps).toArray
  | .agg l => .agg (concs E l).toArray
  | .tuple l => .tuple (concs E l).toArray
  | .top => undef
def concs (E : Env) : List V → List Value
  | [] => []
  | v :: r => conc E v :: concs E r
end

mutual
def inS (n : Nat) : V → Bool
  | .ptr b _ => Nat.blt b n
  | .view b _ _ _ => Nat.blt b n
  | .aslice b _ _ _ => Nat.blt b n
  | .gs b => Nat.blt b n
  | .yield b => Nat.blt b n
  | .func _ caps => inSs n caps
  | .agg l => inSs n l
  | .tuple l => inSs n l
  | .top => false
  | _ => true
def inSs (n : Nat) : List V → Bool
  | [] => true
  | v :: r => inS n v && inSs n r
end

theorem concs_eq (E : Env) (l : List V) : concs E l = l.map (conc E) := by
  induction l with
  | nil => rfl
  | cons v r ih => simp [concs, ih]
theorem inSs_eq (n : Nat) (l : List V) : inSs n l = l.all (inS n) := by
  induction l with
  | nil => rfl
  | cons v r ih => simp [inSs, ih]

/-- Two environments that agree on the blocks below n. -/
structure Agree (n : Nat) (E E' : Env) : Prop where
  blk : ∀ b, b < n → E'.blk b = E.blk b
  delta : ∀ b, b < n → E'.delta b = E.delta b
  len : ∀ b, b < n → E'.len b = E.len b
  cap : ∀ b, b < n → E'.cap b = E.cap b
  isnil : ∀ b, b < n → E'.isnil b = E.isnil b
  base : ∀ b, b < n → E'.base b = E.base b

theorem Agree.refl (n : Nat) (E : Env) : Agree n E E := ⟨fun _ _ => rfl, fun _ _ => rfl, fun _ _ => rfl, fun _ _ => rfl, fun _ _ => rfl, fun _ _ => rfl⟩
theorem Agree.trans {n m : Nat} {E E' E'' : Env} (h : Agree n E E') (h' : Agree m E' E'') (hm : n ≤ m) : Agree n E E'' :=
  ⟨fun b hb => (h'.blk b (by omega)).trans (h.blk b hb), fun b hb => (h'.delta b (by omega)).trans (h.delta b hb), fun b hb => (h'.len b (by omega)).trans (h.len b hb),
   fun b hb => (h'.cap b (by omega)).trans (h.cap b hb), fun b hb => (h'.isnil b (by omega)).trans (h.isnil b hb), fun b hb => (h'.base b (by omega)).trans (h.base b hb)⟩

mutual
theorem conc_agree {n : Nat} {E E' : Env} (h : Agree n E E') : ∀ v, inS n v = true → conc E' v = conc E v
  | .bool _, _ | .int _ _, _ | .str _, _ | .flat _, _ | .glob _ _, _ => by simp [conc]
  | .ptr b off, hs => by simp [inS] at hs; simp [conc, h.blk b hs, h.delta b hs]
  | .view b l sz len, hs => by simp [inS] at hs; simp [conc, h.blk b hs, h.delta b hs, h.cap b hs, h.isnil b hs, h.base b hs]
  | .aslice b off len cap, hs => by simp [inS] at hs; simp [conc, h.blk b hs, h.delta b hs]
  | .gs b, hs => by simp [inS] at hs; simp [conc, h.blk b hs, h.delta b hs, h.len b hs, h.cap b hs, h.isnil b hs, h.base b hs]
  | .yield b, hs => by simp [inS] at hs; simp [conc, h.blk b hs]
  | .func f caps, hs => by simp only [conc]; rw [concs_agree h caps (by simpa [inS] using hs)]
  | .agg l, hs => by simp only [conc]; rw [concs_agree h l (by simpa [inS] using hs)]
  | .tuple l, hs => by simp only [conc]; rw [concs_agree h l (by simpa [inS] using hs)]
  | .top, hs => by simp [inS] at hs
theorem concs_agree {n : Nat} {E E' : Env} (h : Agree n E E') : ∀ l, inSs n l = true → concs E' l = concs E l
  | [], _ => rfl
  | v :: r, hs => by
    simp only [inSs, Bool.and_eq_true] at hs
    simp only [concs]; rw [conc_agree h v hs.1, concs_agree h r hs.2]
end
mutual
theorem inS_mono {n m : Nat} (h : n ≤ m) : ∀ v, inS n v = true → inS m v = true
  | .bool _, _ | .int _ _, _ | .str _, _ | .flat _, _ | .glob _ _, _ => by simp [inS]
  | .ptr b off, hs => by simp [inS] at *; omega
  | .view b l sz len, hs => by simp [inS] at *; omega
  | .aslice b off len cap, hs => by simp [inS] at *; omega
  | .gs b, hs => by simp [inS] at *; omega
  | .yield b, hs => by simp [inS] at *; omega
  | .func f caps, hs => by simp only [inS] at *; exact inSs_mono h caps hs
  | .agg l, hs => by simp only [inS] at *; exact inSs_mono h l hs
  | .tuple l, hs => by simp only [inS] at *; exact inSs_mono h l hs
  | .top, hs => by simp [inS] at hs
theorem inSs_mono {n m : Nat} (h : n ≤ m) : ∀ l, inSs n l = true → inSs m l = true
  | [], _ => rfl
  | v :: r, hs => by
    simp only [inSs, Bool.and_eq_true] at *
    exact ⟨inS_mono h v hs.1, inSs_mono h r hs.2⟩
end

/-- A value of the model stands for an abstract one. -/
def VR (E : Env) (n : Nat) (v : V) (x : Value) : Prop := v = .top ∨ (inS n v = true ∧ x = conc E v)
theorem VR.mono {E E' : Env} {n m : Nat} {v : V} {x : Value} (h : VR E n v x) (hE : Agree n E E') (hm : n ≤ m) : VR E' m v x := by
  rcases h with h | ⟨h1, h2⟩
  · exact .inl h
  · exact .inr ⟨inS_mono hm v h1, by rw [h2, conc_agree hE v h1]⟩

/-- The cells of a block. -/
inductive Row where
  | vs (l : List V)
  | ints (k : IntKind) (l : List Int)
  | strs (l : List ByteArray)
def Row.toVs : Row → List V
  | .vs l => l
  | .ints k l => l.map (.int k)
  | .strs l => l.map .str
def Row.len : Row → Nat
  | .vs l => l.length
  | .ints _ l => l.length
  | .strs l => l.length
theorem Row.len_eq (r : Row) : r.len = r.toVs.length := by cases r <;> simp [Row.len, Row.toVs]

/-- How a piece of code is left. -/
inductive XE where
  | normal
  | exit (id : Nat)
  | ret
def XE.toExit : XE → Exit
  | .normal => .normal
  | .exit id => .exit id
  | .ret => .ret
def XE.code : XE → Code
  | .normal => .skip
  | .exit id => .exit id
  | .ret => .ret
/-- Where a range over a function stands. -/
inductive LSt where
  | ready
  | busy
  | done (e : XE)
def LSt.state : LSt → LoopState
  | .ready => .ready
  | .busy => .busy
  | .done _ => .done
def LSt.pending : LSt → Option Code
  | .done e => some e.code
  | _ => none

inductive Blk where
  | dead
  | defs
  | loopB (st : LSt) (me : FuncId) (tmps : List V) (ps : List Tmp) (assign body : Code) (d : Nat)
  | ro (row : Row)
  | glob (g : Nat) (row : Row)
  | rs (nn : Bool) (sz : Nat) (row : Row)
  | own (ty : TypeId) (row : Row)
  | grow (nn : Bool) (ty : TypeId) (sz : Nat) (row : Row)
  /-- What a slice was, to which one has appended: b0 is its name, n0 the new one's. -/
  | lent (b0 n0 : Nat) (nn : Bool) (ty : TypeId) (sz : Nat) (row : Row)
  /-- A variable of ours of which only the extent is known: n elements. -/
  | raw (ty : TypeId) (sz n : Nat)

def Blk.mine : Blk → Bool
  | .own .. | .grow .. | .defs | .loopB .. | .lent .. | .raw .. => true
  | _ => false
def Blk.row : Blk → Row
  | .dead | .defs | .loopB .. | .lent .. | .raw .. => .vs []
  | .ro r | .glob _ r | .rs _ _ r | .own _ r | .grow _ _ _ r => r

/-- A frozen range that lies behind the cells. -/
def thawed (fz : Nat × Nat) (n : Nat) : Prop := ∀ o, o < n → ¬ (fz.1 ≤ o ∧ o < fz.2)

/-- What a block says of the memory. -/
def BlkOk (E : Env) (n : Nat) (W : World) (b : Nat) : Blk → Prop
  | .dead => True
  | .defs => W.heap[E.blk b]? = some (.deferred (some []))
  | .loopB st _ tmps ps assign body d => d < n ∧ ∃ (fn : FuncId) (vs : Array Value), (vs.size = tmps.length ∧ ∀ (i : Nat) (v : V), tmps[i]? = some v → ∃ x, vs[i]? = some x ∧ VR E n v x) ∧
      W.heap[E.blk b]? = some (.loop { state := st.state, pending := st.pending, fn, tmps := vs, params := ps.toArray, assign, body, defers := E.blk d })
  | .ro row => inSs n row.toVs = true ∧ ∀ i v, row.toVs[i]? = some v → W.cell? ⟨E.blk b, E.delta b + i, none⟩ = some (conc E v)
  | .glob g row => E.blk b = g ∧ E.delta b = 0 ∧ inSs n row.toVs = true ∧ ∀ i v, row.toVs[i]? = some v → W.cell? ⟨E.blk b, E.delta b + i, none⟩ = some (conc E v)
  | .rs nn sz row => inSs n row.toVs = true ∧ 0 < sz ∧ E.len b * sz = row.len ∧ E.len b ≤ E.cap b ∧ (E.isnil b = true → row.len = 0 ∧ nn = false) ∧
      (E.isnil b = false → ∀ i v, row.toVs[i]? = some v → W.cell? ⟨E.blk b, E.delta b + i, none⟩ = some (conc E v))
  | .own ty row => E.delta b = 0 ∧ inSs n row.toVs = true ∧ ∃ fz, thawed fz row.len ∧ W.heap[E.blk b]? = some (.cells (concs E row.toVs).toArray ty fz)
  | .grow nn ty sz row => E.delta b = 0 ∧ inSs n row.toVs = true ∧ 0 < sz ∧ E.len b * sz = row.len ∧ E.len b ≤ E.cap b ∧ (E.isnil b = true → row.len = 0 ∧ nn = false) ∧
      (E.isnil b = false → ∃ fz spare, thawed fz (row.len + spare.length) ∧ row.len + spare.length = E.cap b * sz ∧
        W.heap[E.blk b]? = some (.cells (concs E row.toVs ++ spare).toArray ty fz))
  | .lent b0 n0 nn ty sz row => b0 < n ∧ n0 < n ∧ inSs n row.toVs = true ∧ E.delta b0 = 0 ∧ 0 < sz ∧ E.len b0 * sz = row.len ∧ E.len b0 ≤ E.cap b0 ∧ (E.isnil b0 = true → row.len = 0 ∧ nn = false) ∧
      (E.isnil b0 = false → (E.isnil b = true ∧ E.isnil n0 = false ∧ E.blk b0 = E.blk n0 ∧ E.cap b0 = E.cap n0) ∨ (E.isnil b = false ∧ E.blk b0 = E.blk b)) ∧
      (E.isnil b = false → ∃ fz spare, thawed fz (row.len + spare.length) ∧ row.len + spare.length = E.cap b0 * sz ∧
        W.heap[E.blk b]? = some (.cells (concs E row.toVs ++ spare).toArray ty fz))
  | .raw ty sz m => E.delta b = 0 ∧ 0 < sz ∧ E.isnil b = false ∧ E.cap b = m ∧ ∃ fz cells, List.length cells = m * sz ∧ thawed fz (m * sz) ∧ W.heap[E.blk b]? = some (.cells cells.toArray ty fz)

/-- The block is really there. -/
def liveAt (E : Env) (b : Nat) : Blk → Bool
  | .dead => false
  | .grow .. | .lent .. => !E.isnil b
  | .ro row => !row.toVs.isEmpty
  | .glob _ row => !row.toVs.isEmpty
  | .rs _ _ row => !E.isnil b && !row.toVs.isEmpty
  | _ => true

def Mine (E : Env) (h : List Blk) (k : Nat) : Prop := ∃ b blk, h[b]? = some blk ∧ blk.mine = true ∧ liveAt E b blk = true ∧ E.blk b = k

structure Holds (E : Env) (h : List Blk) (W : World) : Prop where
  ok : ∀ b blk, h[b]? = some blk → BlkOk E h.length W b blk
  inj : ∀ b b' blk blk', h[b]? = some blk → h[b']? = some blk' → blk.mine = true → liveAt E b blk = true → liveAt E b' blk' = true → E.blk b = E.blk b' → b = b'

/-- From one abstract heap to another one, the memory having gone from W to W'. -/
structure Trans (E : Env) (h : List Blk) (W : World) (E' : Env) (h' : List Blk) (W' : World) : Prop where
  agree : Agree h.length E E'
  len : h.length ≤ h'.length
  mine : ∀ k, Mine E' h' k → Mine E h k ∨ W.heap.size ≤ k
  frame : ∀ k, k < W.heap.size → ¬ Mine E h k → W'.heap[k]? = W.heap[k]?
  size : W.heap.size ≤ W'.heap.size
  os : W'.os = W.os
  tape : W'.tape = W.tape
  output : W'.output = W.output

theorem Trans.refl (E : Env) (h : List Blk) (W : World) : Trans E h W E h W :=
  ⟨Agree.refl _ _, Nat.le_refl _, fun _ hk => .inl hk, fun _ _ _ => rfl, Nat.le_refl _, rfl, rfl, rfl⟩
theorem Trans.trans {E E' E'' : Env} {h h' h'' : List Blk} {W W' W'' : World} (a : Trans E h W E' h' W') (b : Trans E' h' W' E'' h'' W'') : Trans E h W E'' h'' W'' :=
  ⟨a.agree.trans b.agree a.len, Nat.le_trans a.len b.len,
   fun k hk => by
     rcases b.mine k hk with h1 | h1
     · exact a.mine k h1
     · exact .inr (Nat.le_trans a.size h1),
   fun k hk hn => by
     rw [b.frame k (Nat.lt_of_lt_of_le hk a.size) (fun hm => by
       rcases a.mine k hm with h1 | h1
       · exact hn h1
       · omega)]
     exact a.frame k hk hn,
   Nat.le_trans a.size b.size, b.os.trans a.os, b.tape.trans a.tape, b.output.trans a.output⟩

theorem Agree.mono {n m : Nat} {E E' : Env} (h : Agree n E E') (hm : m ≤ n) : Agree m E E' :=
  ⟨fun b hb => h.blk b (by omega), fun b hb => h.delta b (by omega), fun b hb => h.len b (by omega), fun b hb => h.cap b (by omega), fun b hb => h.isnil b (by omega), fun b hb => h.base b (by omega)⟩
/-- The same, but that only the first n blocks keep their names. -/
structure TransN (n : Nat) (E : Env) (h : List Blk) (W : World) (E' : Env) (h' : List Blk) (W' : World) : Prop where
  agree : Agree n E E'
  len : n ≤ h'.length
  mine : ∀ k, Mine E' h' k → Mine E h k ∨ W.heap.size ≤ k
  frame : ∀ k, k < W.heap.size → ¬ Mine E h k → W'.heap[k]? = W.heap[k]?
  size : W.heap.size ≤ W'.heap.size
  os : W'.os = W.os
  tape : W'.tape = W.tape
  output : W'.output = W.output
theorem Trans.to {n : Nat} {E E' : Env} {h h' : List Blk} {W W' : World} (t : Trans E h W E' h' W') (hn : n ≤ h.length) : TransN n E h W E' h' W' :=
  ⟨t.agree.mono hn, Nat.le_trans hn t.len, t.mine, t.frame, t.size, t.os, t.tape, t.output⟩
theorem TransN.full {E E' : Env} {h h' : List Blk} {W W' : World} (t : TransN h.length E h W E' h' W') : Trans E h W E' h' W' :=
  ⟨t.agree, t.len, t.mine, t.frame, t.size, t.os, t.tape, t.output⟩
theorem TransN.trans {n : Nat} {E E' E'' : Env} {h h' h'' : List Blk} {W W' W'' : World} (a : TransN n E h W E' h' W') (b : TransN n E' h' W' E'' h'' W'') : TransN n E h W E'' h'' W'' :=
  ⟨a.agree.trans b.agree (Nat.le_refl _), b.len,
   fun k hk => by
     rcases b.mine k hk with h1 | h1
     · exact a.mine k h1
     · exact .inr (Nat.le_trans a.size h1),
   fun k hk hn => by
     rw [b.frame k (Nat.lt_of_lt_of_le hk a.size) (fun hm => by
       rcases a.mine k hm with h1 | h1
       · exact hn h1
       · omega)]
     exact a.frame k hk hn,
   Nat.le_trans a.size b.size, b.os.trans a.os, b.tape.trans a.tape, b.output.trans a.output⟩

/-- A draw changes nothing that is looked at. -/
theorem Holds.drew {E : Env} {h : List Blk} {W : World} (hh : Holds E h W) : Holds E h W.drew :=
  ⟨fun b blk hb => by have := hh.ok b blk hb; cases blk <;> exact this, hh.inj⟩
theorem Trans.drew {E : Env} {h : List Blk} {W : World} : Trans E h W E h W.drew :=
  ⟨Agree.refl _ _, Nat.le_refl _, fun _ hk => .inl hk, fun _ _ _ => rfl, Nat.le_refl _, rfl, rfl, rfl⟩

/-- The abstract state of a function. -/
structure AS where
  tmps : List V
  heap : List Blk
  marks : List Nat
def marksOf (E : Env) : List Nat → List Deferred
  | [] => []
  | b :: r => { target := .collected (E.blk b), args := #[] } :: marksOf E r
theorem marksOf_agree {n : Nat} {E E' : Env} (h : Agree n E E') : ∀ {l : List Nat}, (∀ b ∈ l, b < n) → marksOf E' l = marksOf E l
  | [], _ => rfl
  | b :: r, hl => by simp only [marksOf]; rw [h.blk b (hl b (by simp)), marksOf_agree h (fun x hx => hl x (by simp [hx]))]

structure StOk (E : Env) (s : AS) (a : Act) (W : World) : Prop where
  size : a.tmps.size = s.tmps.length
  slots : ∀ (i : Nat) (v : V), s.tmps[i]? = some v → ∃ x, a.tmps[i]? = some x ∧ VR E s.heap.length v x
  defers : a.defers = marksOf E s.marks
  scope : ∀ b ∈ s.marks, b < s.heap.length
  heap : Holds E s.heap W

def undefV : V := .tuple []

def getV : List V → Nat → V
  | [], _ => undefV
  | v :: _, 0 => v
  | _ :: r, n + 1 => getV r n
def setV : List V → Nat → V → List V
  | [], _, _ => []
  | _ :: r, 0, v => v :: r
  | u :: r, n + 1, v => u :: setV r n v
theorem setV_eq (l : List V) (i : Nat) (v : V) : setV l i v = l.set i v := by
  induction l generalizing i with
  | nil => rfl
  | cons u r ih => cases i <;> simp [setV, ih]
theorem getV_eq (l : List V) (i : Nat) : getV l i = (l[i]?).getD undefV := by
  induction l generalizing i with
  | nil => rfl
  | cons u r ih => cases i <;> simp [getV, ih]

/-- Values that hold no pointers. -/
def ofScalar : Value → V
  | .bool b => .bool b
  | .int k n => .int k n
  | .string s => .str s
  | v => .flat v
def ofValue : Value → V
  | .agg cs => .agg (cs.toList.map ofScalar)
  | .tuple vs => .tuple (vs.toList.map ofScalar)
  | v => ofScalar v
theorem conc_ofScalar (E : Env) (v : Value) : conc E (ofScalar v) = v := by cases v <;> simp [ofScalar, conc]
theorem inS_ofScalar (n : Nat) (v : Value) : inS n (ofScalar v) = true := by cases v <;> simp [ofScalar, inS]
theorem concs_ofScalar (E : Env) (l : List Value) : concs E (l.map ofScalar) = l := by
  rw [concs_eq, List.map_map]
  have : (conc E ∘ ofScalar) = id := funext fun v => conc_ofScalar E v
  rw [this, List.map_id]
theorem inSs_ofScalar (n : Nat) (l : List Value) : inSs n (l.map ofScalar) = true := by
  rw [inSs_eq]; simp [inS_ofScalar]
theorem conc_ofValue (E : Env) (v : Value) : conc E (ofValue v) = v := by
  cases v
  case agg => simp only [ofValue, conc, concs_ofScalar, Array.toArray_toList]
  case tuple => simp only [ofValue, conc, concs_ofScalar, Array.toArray_toList]
  all_goals (simp only [ofValue]; exact conc_ofScalar E _)
theorem inS_ofValue (n : Nat) (v : Value) : inS n (ofValue v) = true := by
  cases v
  case agg => simp only [ofValue, inS, inSs_ofScalar]
  case tuple => simp only [ofValue, inS, inSs_ofScalar]
  all_goals (simp only [ofValue]; exact inS_ofScalar n _)

def evalV (tmps : List V) : Operand → V
  | .tmp t => getV tmps t
  | .const v => ofValue v
  | .global g => .glob g 0
  | .func f => .func f []

theorem StOk.eval {E : Env} {s : AS} {a : Act} {W : World} (h : StOk E s a W) (x : Operand) : VR E s.heap.length (evalV s.tmps x) (a.eval x) := by
  cases x with
  | tmp t =>
    simp only [evalV, Act.eval, getV_eq]
    cases hs : s.tmps[t]? with
    | none =>
      have : a.tmps[t]? = none := by
        rw [Array.getElem?_eq_none_iff, h.size]; exact List.getElem?_eq_none_iff.1 hs
      rw [Array.getD_eq_getD_getElem?, this]
      exact .inr ⟨by simp [undefV, inS, inSs], by simp [undefV, conc, concs, undef]⟩
    | some v =>
      obtain ⟨x, hx, hv⟩ := h.slots t v hs
      rw [Array.getD_eq_getD_getElem?, hx]
      exact hv
  | const v => exact .inr ⟨inS_ofValue _ v, (conc_ofValue E v).symm⟩
  | global g => exact .inr ⟨by simp [evalV, inS], by simp [evalV, conc, Act.eval]⟩
  | func f => exact .inr ⟨by simp [evalV, inS, inSs], by simp [evalV, conc, concs, Act.eval]⟩

def putV (tmps : List V) : Option Tmp → V → List V
  | some d, v => setV tmps d v
  | none, _ => tmps

theorem StOk.put {E E' : Env} {s : AS} {a : Act} {W W' : World} {h' : List Blk} (h : StOk E s a W) (hE : Agree s.heap.length E E') (hl : s.heap.length ≤ h'.length) (hh : Holds E' h' W') (d : Option Tmp) {v : V} {x : Value}
    (hv : VR E' h'.length v x) : StOk E' ⟨putV s.tmps d v, h', s.marks⟩ (a.put d x) W' := by
  have hdef : a.defers = marksOf E' s.marks := by rw [marksOf_agree hE h.scope]; exact h.defers
  have hsc : ∀ b ∈ s.marks, b < h'.length := fun b hb => Nat.lt_of_lt_of_le (h.scope b hb) hl
  cases d with
  | none => exact ⟨h.size, fun i u hi => by obtain ⟨y, hy, hr⟩ := h.slots i u hi; exact ⟨y, hy, hr.mono hE hl⟩, hdef, hsc, hh⟩
  | some d =>
    refine ⟨by simp [Act.put, putV, setV_eq, h.size], fun i u hi => ?_, hdef, hsc, hh⟩
    simp only [putV, setV_eq] at hi
    simp only [Act.put]
    by_cases hd : d = i
    · subst hd
      rcases Nat.lt_or_ge d s.tmps.length with hlt | hge
      · rw [List.getElem?_set_self hlt] at hi
        injection hi with hi; subst hi
        exact ⟨x, by rw [Array.getElem?_setIfInBounds_self_of_lt (by rw [h.size]; exact hlt)], hv⟩
      · rw [List.getElem?_eq_none (by simpa using hge)] at hi; cases hi
    · rw [List.getElem?_set_ne hd] at hi
      obtain ⟨y, hy, hr⟩ := h.slots i u hi
      exact ⟨y, by rw [Array.getElem?_setIfInBounds_ne hd]; exact hy, hr.mono hE hl⟩

end Go.Eng

/- ENGINE, PART 2: memory: what reading, writing and making a block do to an abstract heap. -/
namespace Go.Eng
open Go

theorem Addr_add_lit (b o n : Nat) : (⟨b, o, none⟩ : Addr).add n = ⟨b, o + n, none⟩ := by
  unfold Addr.add; split <;> simp_all

def oneV : V → Bool
  | .flat v => v.oneCell'
  | .agg _ | .tuple _ | .top => false
  | _ => true
theorem oneV_conc {E : Env} {v : V} (h : oneV v = true) : (conc E v).oneCell' = true := by
  cases v <;> simp_all [oneV, conc, Value.oneCell']
  case gs b => cases E.isnil b <;> rfl
  case view b l sz len => cases E.isnil b <;> rfl

/-- The cells of a value. -/
def cellsV : V → List V
  | .agg l => l
  | v => [v]
/-- A value whose cells are known. -/
def wholeV : V → Bool
  | .flat v => v.oneCell'
  | .agg l => l.all oneV
  | .tuple _ | .top => false
  | _ => true
theorem cellsV_conc {E : Env} {v : V} (h : wholeV v = true) : (conc E v).cells.toList = concs E (cellsV v) := by
  cases v <;> simp_all [wholeV, conc, cellsV, concs, Value.cells]
  case gs b => cases E.isnil b <;> rfl
  case view b l sz len => cases E.isnil b <;> rfl
  case flat v => cases v <;> simp_all [Value.oneCell']
theorem cellsV_one {v : V} (h : wholeV v = true) : ∀ u ∈ cellsV v, oneV u = true := by
  cases v <;> simp_all [wholeV, cellsV, oneV]
theorem cellsV_inS {n : Nat} {v : V} (h : inS n v = true) : inSs n (cellsV v) = true := by
  cases v <;> simp_all [inS, cellsV, inSs]

def setB (h : List Blk) (b : Nat) (blk : Blk) : List Blk := match h, b with
  | [], _ => []
  | _ :: r, 0 => blk :: r
  | x :: r, n + 1 => x :: setB r n blk
theorem setB_eq (h : List Blk) (b : Nat) (blk : Blk) : setB h b blk = h.set b blk := by
  induction h generalizing b with
  | nil => rfl
  | cons x r ih => cases b <;> simp [setB, ih]
theorem setB_len (h : List Blk) (b : Nat) (blk : Blk) : (setB h b blk).length = h.length := by rw [setB_eq]; simp
def getB (h : List Blk) (b : Nat) : Blk := match h, b with
  | [], _ => .dead
  | x :: _, 0 => x
  | _ :: r, n + 1 => getB r n
theorem getB_eq (h : List Blk) (b : Nat) : getB h b = (h[b]?).getD .dead := by
  induction h generalizing b with
  | nil => rfl
  | cons x r ih => cases b <;> simp [getB, ih]
theorem getB_some {h : List Blk} {b : Nat} {blk : Blk} (he : getB h b = blk) (hn : blk ≠ .dead) : h[b]? = some blk := by
  rw [getB_eq] at he
  cases hb : h[b]? with
  | none => rw [hb] at he; exact absurd he.symm hn
  | some x => rw [hb] at he; simp at he; rw [he]

/-- A cell of a known block. -/
theorem Holds.cell {E : Env} {h : List Blk} {W : World} (hh : Holds E h W) {b : Nat} {blk : Blk} (hb : h[b]? = some blk) {i : Nat} {v : V} (hv : blk.row.toVs[i]? = some v) :
    W.cell? ⟨E.blk b, E.delta b + i, none⟩ = some (conc E v) ∧ inS h.length v = true := by
  have hk := hh.ok b blk hb
  have sc : ∀ {l : List V}, inSs h.length l = true → l[i]? = some v → inS h.length v = true := fun hs hi => by
    rw [inSs_eq, List.all_eq_true] at hs
    exact hs v (List.mem_of_getElem? hi)
  cases blk with
  | dead => simp [Blk.row, Row.toVs] at hv
  | defs => simp [Blk.row, Row.toVs] at hv
  | loopB st me tmps ps assign body d => simp [Blk.row, Row.toVs] at hv
  | lent b0 n0 nn ty sz row => simp [Blk.row, Row.toVs] at hv
  | raw ty sz m => simp [Blk.row, Row.toVs] at hv
  | ro row => exact ⟨hk.2 i v hv, sc hk.1 hv⟩
  | glob g row => exact ⟨hk.2.2.2 i v hv, sc hk.2.2.1 hv⟩
  | rs nn sz row =>
    obtain ⟨hs, _, _, _, hnil, hc⟩ := hk
    refine ⟨?_, sc hs hv⟩
    have hlt : i < row.toVs.length := by
      rcases Nat.lt_or_ge i row.toVs.length with h' | h'
      · exact h'
      · simp only [Blk.row] at hv; rw [List.getElem?_eq_none h'] at hv; cases hv
    have hn : E.isnil b = false := by
      cases hx : E.isnil b with
      | false => rfl
      | true => have := (hnil hx).1; rw [Row.len_eq] at this; omega
    exact hc hn i v hv
  | own ty row =>
    obtain ⟨hd, hs, fz, _, hc⟩ := hk
    refine ⟨?_, sc hs hv⟩
    simp only [Blk.row] at hv
    simp only [World.cell?, hc, hd, Nat.zero_add, concs_eq]
    simp [hv]
  | grow nn ty sz row =>
    obtain ⟨hd, hs, _, hl, hle, hnil, hc⟩ := hk
    refine ⟨?_, sc hs hv⟩
    simp only [Blk.row] at hv
    have hlt : i < row.toVs.length := by
      rcases Nat.lt_or_ge i row.toVs.length with h' | h'
      · exact h'
      · rw [List.getElem?_eq_none h'] at hv; cases hv
    have hn : E.isnil b = false := by
      cases hx : E.isnil b with
      | false => rfl
      | true => have := (hnil hx).1; rw [Row.len_eq] at this; omega
    obtain ⟨fz, spare, _, _, hc⟩ := hc hn
    simp only [World.cell?, hc, hd, Nat.zero_add, concs_eq]
    simp only [Option.isSome_none, Bool.false_eq_true, if_false, List.getElem?_toArray]
    rw [List.getElem?_append_left (by simpa using hlt)]
    simp [hv]

def World.putObj (W : World) (g : Nat) (o : Obj) : World := { W with heap := W.heap.setIfInBounds g o }

def splice {α : Type} (l : List α) (i : Nat) (vs : List α) : List α := l.take i ++ vs ++ l.drop (i + vs.length)
theorem splice_length {α : Type} (l : List α) (i : Nat) (vs : List α) (h : i + vs.length ≤ l.length) : (splice l i vs).length = l.length := by
  simp [splice]; omega
theorem splice_map {α β : Type} (f : α → β) (l : List α) (i : Nat) (vs : List α) : (splice l i vs).map f = splice (l.map f) i (vs.map f) := by
  simp [splice]
theorem splice_nil {α : Type} (l : List α) (i : Nat) : splice l i [] = l := by simp [splice]
theorem splice_cons {α : Type} (l : List α) (i : Nat) (v : α) (r : List α) (h : i < l.length) : splice l i (v :: r) = splice (l.set i v) (i + 1) r := by
  simp only [splice, List.length_cons]
  rw [List.take_set, List.take_add_one, List.drop_set_of_lt (by omega)]
  simp only [List.getElem?_eq_getElem h, Option.toList]
  rw [List.set_append_right _ _ (by simp; omega)]
  have : i - (List.take i l).length = 0 := by simp; omega
  rw [this]
  simp only [List.set_cons_zero, List.append_assoc, List.cons_append, List.nil_append]
  rw [show i + (r.length + 1) = i + 1 + r.length by omega]
theorem splice_append {α : Type} (l m : List α) (i : Nat) (vs : List α) (h : i + vs.length ≤ l.length) : splice (l ++ m) i vs = splice l i vs ++ m := by
  simp only [splice]
  rw [List.take_append_of_le_length (by omega), List.drop_append_of_le_length h]
  simp
theorem splice_one {α : Type} (l : List α) (i : Nat) (v : α) (h : i < l.length) : splice l i [v] = l.set i v := by
  rw [splice_cons _ _ _ _ h, splice_nil]

theorem setCell_putObj (W : World) (g o : Nat) (v : Value) {cur : Array Value} {t : TypeId} {fz : Nat × Nat} (hg : W.heap[g]? = some (.cells cur t fz)) :
    W.setCell ⟨g, o, none⟩ v = World.putObj W g (.cells (cur.setIfInBounds o v) t fz) := by
  unfold World.setCell World.putObj
  simp only [Option.isSome_none, Bool.false_eq_true, if_false]
  congr 1
  apply Array.ext'
  apply List.ext_getElem?
  intro i
  simp only [Array.getElem?_toList, Array.getElem?_modify, Array.getElem?_setIfInBounds]
  have hlt : g < W.heap.size := (Array.getElem?_eq_some_iff.1 hg).1
  by_cases hi : g = i
  · subst hi
    have hv : W.heap[g] = .cells cur t fz := (Array.getElem?_eq_some_iff.1 hg).2
    simp [hlt, hv]
  · simp [hi]

theorem putObj_get {W : World} {g k : Nat} {o : Obj} (h : g ≠ k) : (World.putObj W g o).heap[k]? = W.heap[k]? := by
  simp [World.putObj, h]
theorem putObj_self {W : World} {g : Nat} {o : Obj} (h : g < W.heap.size) : (World.putObj W g o).heap[g]? = some o := by
  simp [World.putObj, h]
theorem putObj_putObj (W : World) (g : Nat) (o o' : Obj) : World.putObj (World.putObj W g o) g o' = World.putObj W g o' := by
  unfold World.putObj; simp
@[simp] theorem putObj_size (W : World) (g : Nat) (o : Obj) : (World.putObj W g o).heap.size = W.heap.size := by simp [World.putObj]

theorem run_storeCells_any {P : Program} (g o : Nat) (t : TypeId) (fz : Nat × Nat) : ∀ (vs : List Value) (i : Nat) (cur : List Value) (W : World), W.heap[g]? = some (.cells cur.toArray t fz) → (∀ k, k < o + i + vs.length → ¬ (fz.1 ≤ k ∧ k < fz.2)) →
    o + i + vs.length ≤ cur.length → (∀ v ∈ vs, v.oneCell' = true) →
    (storeCells ⟨g, o, none⟩ vs i).run P W = .ok () (World.putObj W g (.cells (splice cur (o + i) vs).toArray t fz))
  | [], i, cur, W, hg, _, _, _ => by
    simp only [storeCells, splice_nil]
    have : World.putObj W g (.cells cur.toArray t fz) = W := by
      unfold World.putObj
      have hlt : g < W.heap.size := (Array.getElem?_eq_some_iff.1 hg).1
      have he : W.heap.setIfInBounds g (.cells cur.toArray t fz) = W.heap := by
        apply Array.ext'
        apply List.ext_getElem?
        intro k
        simp only [Array.getElem?_toList, Array.getElem?_setIfInBounds]
        by_cases hk : g = k
        · subst hk
          have hv : W.heap[g] = .cells cur.toArray t fz := (Array.getElem?_eq_some_iff.1 hg).2
          simp [hlt, hv]
        · simp [hk]
      rw [he]
    rw [this]; rfl
  | v :: rest, i, cur, W, hg, hf, hl, h1 => by
    have hlt : g < W.heap.size := (Array.getElem?_eq_some_iff.1 hg).1
    simp only [List.length_cons] at hl hf
    have hc : W.cell? ⟨g, o + i, none⟩ = some (cur[o + i]'(by omega)) := by
      simp only [World.cell?, hg]
      simp
    have hfr : W.frozen? ⟨g, o + i, none⟩ = false := by
      simp only [World.frozen?, hg]
      have := hf (o + i) (by omega)
      simpa using this
    have hst : (store ((⟨g, o, none⟩ : Addr).add i) v).run P W = .ok () (W.setCell ⟨g, o + i, none⟩ v) := by
      rw [Addr_add_lit, run_store P W _ v _ (h1 v (by simp)), hc]
      simp [hfr]
    simp only [storeCells, Sem.run_bind, hst, Result.andThen_ok]
    rw [setCell_putObj W g (o + i) v hg]
    have hcur : cur.toArray.setIfInBounds (o + i) v = (cur.set (o + i) v).toArray := by simp
    rw [hcur]
    have ih := run_storeCells_any (P := P) g o t fz rest (i + 1) (cur.set (o + i) v) (World.putObj W g (.cells (cur.set (o + i) v).toArray t fz)) (putObj_self hlt)
      (fun k hk => hf k (by omega)) (by simp; omega) (fun u hu => h1 u (by simp [hu]))
    rw [ih, putObj_putObj, splice_cons _ _ _ _ (by omega), show o + (i + 1) = o + i + 1 by omega]

end Go.Eng

/- ENGINE, PART 3: how an abstract heap is kept, grown and written. -/
namespace Go.Eng
open Go

theorem cell_of_heap {W W' : World} {a : Addr} {v : Value} (h : W.cell? a = some v) (hW : ∀ o, W.heap[a.block]? = some o → W'.heap[a.block]? = some o) : W'.cell? a = some v := by
  unfold World.cell? at *
  cases hb : W.heap[a.block]? with
  | none => rw [hb] at h; cases h
  | some o => rw [hb] at h; rw [hW o hb]; exact h

theorem BlkOk.frame {E E' : Env} {n m : Nat} {W W' : World} {b : Nat} {blk : Blk} (hk : BlkOk E n W b blk) (hb : b < n) (hE : Agree n E E') (hm : n ≤ m)
    (hW : ∀ o, W.heap[E.blk b]? = some o → W'.heap[E.blk b]? = some o) : BlkOk E' m W' b blk := by
  have e1 := hE.blk b hb
  have e2 := hE.delta b hb
  cases blk with
  | dead => trivial
  | defs => unfold BlkOk at *; rw [e1]; exact hW _ hk
  | loopB st me tmps ps assign body d =>
    obtain ⟨hd, fn, vs, ⟨hv1, hv2⟩, hc⟩ := hk
    refine ⟨Nat.lt_of_lt_of_le hd hm, fn, vs, ⟨hv1, fun i v hi => ?_⟩, by rw [e1, hE.blk d hd]; exact hW _ hc⟩
    obtain ⟨x, hx, hr⟩ := hv2 i v hi
    exact ⟨x, hx, hr.mono hE hm⟩
  | ro row =>
    refine ⟨inSs_mono hm _ hk.1, fun i v hi => ?_⟩
    have hs : inS n v = true := by
      have := hk.1; rw [inSs_eq, List.all_eq_true] at this; exact this v (List.mem_of_getElem? hi)
    rw [e1, e2, conc_agree hE v hs]
    exact cell_of_heap (hk.2 i v hi) hW
  | glob g row =>
    obtain ⟨hg, hd, hs, hc⟩ := hk
    refine ⟨by rw [e1]; exact hg, by rw [e2]; exact hd, inSs_mono hm _ hs, fun i v hi => ?_⟩
    have hs : inS n v = true := by
      rw [inSs_eq, List.all_eq_true] at hs; exact hs v (List.mem_of_getElem? hi)
    rw [e1, e2, conc_agree hE v hs]
    exact cell_of_heap (hc i v hi) hW
  | rs nn sz row =>
    obtain ⟨hs, hz, hl, hle, hnil, hc⟩ := hk
    refine ⟨inSs_mono hm _ hs, hz, by rw [hE.len b hb]; exact hl, by rw [hE.len b hb, hE.cap b hb]; exact hle, fun h => hnil (by rw [← hE.isnil b hb]; exact h), fun h i v hi => ?_⟩
    have hs : inS n v = true := by
      rw [inSs_eq, List.all_eq_true] at hs; exact hs v (List.mem_of_getElem? hi)
    rw [e1, e2, conc_agree hE v hs]
    exact cell_of_heap (hc (by rw [← hE.isnil b hb]; exact h) i v hi) hW
  | own ty row =>
    obtain ⟨hd, hs, fz, hfz, hc⟩ := hk
    exact ⟨by rw [e2]; exact hd, inSs_mono hm _ hs, fz, hfz, by rw [e1, concs_agree hE _ hs]; exact hW _ hc⟩
  | grow nn ty sz row =>
    obtain ⟨hd, hs, hz, hl, hle, hnil, hc⟩ := hk
    refine ⟨by rw [e2]; exact hd, inSs_mono hm _ hs, hz, by rw [hE.len b hb]; exact hl, by rw [hE.len b hb, hE.cap b hb]; exact hle, fun h => hnil (by rw [← hE.isnil b hb]; exact h), fun h => ?_⟩
    obtain ⟨fz, spare, hfz, hsz, hc⟩ := hc (by rw [← hE.isnil b hb]; exact h)
    exact ⟨fz, spare, hfz, by rw [hE.cap b hb]; exact hsz, by rw [e1, concs_agree hE _ hs]; exact hW _ hc⟩
  | lent b0 n0 nn ty sz row =>
    obtain ⟨k1, k2, hs, hd, hz, hl, hle, hnil, hor, hc⟩ := hk
    refine ⟨Nat.lt_of_lt_of_le k1 hm, Nat.lt_of_lt_of_le k2 hm, inSs_mono hm _ hs, by rw [hE.delta b0 k1]; exact hd, hz, by rw [hE.len b0 k1]; exact hl, by rw [hE.len b0 k1, hE.cap b0 k1]; exact hle, fun h => hnil (by rw [← hE.isnil b0 k1]; exact h), fun h => ?_, fun h => ?_⟩
    · rw [hE.isnil b hb, hE.isnil n0 k2, hE.blk b0 k1, hE.blk n0 k2, hE.cap b0 k1, hE.cap n0 k2, e1]
      exact hor (by rw [← hE.isnil b0 k1]; exact h)
    · obtain ⟨fz, spare, hfz, hsz, hc⟩ := hc (by rw [← hE.isnil b hb]; exact h)
      exact ⟨fz, spare, hfz, by rw [hE.cap b0 k1]; exact hsz, by rw [e1, concs_agree hE _ hs]; exact hW _ hc⟩
  | raw ty sz m =>
    obtain ⟨hd, hz, hn, hcp, fz, cells, hl, hfz, hc⟩ := hk
    exact ⟨by rw [e2]; exact hd, hz, by rw [hE.isnil b hb]; exact hn, by rw [hE.cap b hb]; exact hcp, fz, cells, hl, hfz, by rw [e1]; exact hW _ hc⟩

/-- What is not there says nothing of the memory. -/
theorem BlkOk.absent {E E' : Env} {n m : Nat} {W W' : World} {b : Nat} {blk : Blk} (hk : BlkOk E n W b blk) (hb : b < n) (hE : Agree n E E') (hm : n ≤ m) (hl : liveAt E b blk = false) : BlkOk E' m W' b blk := by
  cases blk with
  | dead => trivial
  | defs => simp [liveAt] at hl
  | loopB st me tmps ps assign body d => simp [liveAt] at hl
  | ro row =>
    simp only [liveAt, Bool.not_eq_eq_eq_not, Bool.not_false, List.isEmpty_iff] at hl
    refine ⟨inSs_mono hm _ hk.1, fun i v hi => ?_⟩
    rw [hl] at hi; simp at hi
  | glob g row =>
    obtain ⟨hg, hd, hs, hc⟩ := hk
    simp only [liveAt, Bool.not_eq_eq_eq_not, Bool.not_false, List.isEmpty_iff] at hl
    refine ⟨by rw [hE.blk b hb]; exact hg, by rw [hE.delta b hb]; exact hd, inSs_mono hm _ hs, fun i v hi => ?_⟩
    rw [hl] at hi; simp at hi
  | rs nn sz row =>
    obtain ⟨hs, hz, hle, hc1, hnil, hc⟩ := hk
    refine ⟨inSs_mono hm _ hs, hz, by rw [hE.len b hb]; exact hle, by rw [hE.len b hb, hE.cap b hb]; exact hc1, fun h => hnil (by rw [← hE.isnil b hb]; exact h), fun h i v hi => ?_⟩
    rw [hE.isnil b hb] at h
    simp only [liveAt, h, Bool.not_false, Bool.true_and, Bool.not_eq_eq_eq_not, List.isEmpty_iff] at hl
    rw [hl] at hi; simp at hi
  | own ty row => simp [liveAt] at hl
  | grow nn ty sz row =>
    obtain ⟨hd, hs, hz, hle, hc1, hnil, hc⟩ := hk
    simp only [liveAt, Bool.not_eq_eq_eq_not, Bool.not_false] at hl
    exact ⟨by rw [hE.delta b hb]; exact hd, inSs_mono hm _ hs, hz, by rw [hE.len b hb]; exact hle, by rw [hE.len b hb, hE.cap b hb]; exact hc1, fun _ => hnil hl, fun h => by rw [hE.isnil b hb, hl] at h; cases h⟩
  | lent b0 n0 nn ty sz row =>
    obtain ⟨k1, k2, hs, hd, hz, hl2, hle, hnil, hor, hc⟩ := hk
    simp only [liveAt, Bool.not_eq_eq_eq_not, Bool.not_false] at hl
    refine ⟨Nat.lt_of_lt_of_le k1 hm, Nat.lt_of_lt_of_le k2 hm, inSs_mono hm _ hs, by rw [hE.delta b0 k1]; exact hd, hz, by rw [hE.len b0 k1]; exact hl2, by rw [hE.len b0 k1, hE.cap b0 k1]; exact hle, fun h => hnil (by rw [← hE.isnil b0 k1]; exact h), fun h => ?_, fun h => by rw [hE.isnil b hb, hl] at h; cases h⟩
    rw [hE.isnil b hb, hE.isnil n0 k2, hE.blk b0 k1, hE.blk n0 k2, hE.cap b0 k1, hE.cap n0 k2, hE.blk b hb]
    exact hor (by rw [← hE.isnil b0 k1]; exact h)
  | raw ty sz m => simp [liveAt] at hl

theorem liveAt_agree {E E' : Env} {n b : Nat} (hE : Agree n E E') (hb : b < n) (blk : Blk) : liveAt E' b blk = liveAt E b blk := by
  cases blk <;> simp [liveAt, hE.isnil b hb]

theorem BlkOk.lt {E : Env} {n : Nat} {W : World} {b : Nat} {blk : Blk} (hk : BlkOk E n W b blk) (hl : liveAt E b blk = true) : E.blk b < W.heap.size := by
  cases blk with
  | dead => simp [liveAt] at hl
  | defs => exact (Array.getElem?_eq_some_iff.1 hk).1
  | loopB st me tmps ps assign body d =>
    obtain ⟨_, fn, vs, _, hc⟩ := hk
    exact (Array.getElem?_eq_some_iff.1 hc).1
  | ro row =>
    simp only [liveAt, Bool.not_eq_eq_eq_not, Bool.not_true, List.isEmpty_eq_false_iff] at hl
    cases hr : row.toVs with
    | nil => exact absurd hr hl
    | cons v r => exact World.block_lt_of_cell? _ _ (hk.2 0 v (by rw [hr]; rfl))
  | glob g row =>
    simp only [liveAt, Bool.not_eq_eq_eq_not, Bool.not_true, List.isEmpty_eq_false_iff] at hl
    cases hr : row.toVs with
    | nil => exact absurd hr hl
    | cons v r => exact World.block_lt_of_cell? _ _ (hk.2.2.2 0 v (by rw [hr]; rfl))
  | rs nn sz row =>
    obtain ⟨_, _, _, _, _, hc⟩ := hk
    simp only [liveAt, Bool.and_eq_true, Bool.not_eq_eq_eq_not, Bool.not_true, List.isEmpty_eq_false_iff] at hl
    cases hr : row.toVs with
    | nil => exact absurd hr hl.2
    | cons v r => exact World.block_lt_of_cell? _ _ (hc hl.1 0 v (by rw [hr]; rfl))
  | own ty row =>
    obtain ⟨_, _, fz, _, hc⟩ := hk
    exact (Array.getElem?_eq_some_iff.1 hc).1
  | grow nn ty sz row =>
    obtain ⟨_, _, _, _, _, _, hc⟩ := hk
    simp only [liveAt, Bool.not_eq_eq_eq_not, Bool.not_true] at hl
    obtain ⟨fz, spare, _, _, hc⟩ := hc hl
    exact (Array.getElem?_eq_some_iff.1 hc).1
  | lent b0 n0 nn ty sz row =>
    obtain ⟨_, _, _, _, _, _, _, _, _, hc⟩ := hk
    simp only [liveAt, Bool.not_eq_eq_eq_not, Bool.not_true] at hl
    obtain ⟨fz, spare, _, _, hc⟩ := hc hl
    exact (Array.getElem?_eq_some_iff.1 hc).1
  | raw ty sz m =>
    obtain ⟨_, _, _, _, fz, cells, _, _, hc⟩ := hk
    exact (Array.getElem?_eq_some_iff.1 hc).1

theorem getElem?_lt {α : Type} {l : List α} {i : Nat} {x : α} (h : l[i]? = some x) : i < l.length := by
  rcases Nat.lt_or_ge i l.length with h' | h'
  · exact h'
  · rw [List.getElem?_eq_none h'] at h; cases h

/-- The memory may grow, and what is not ours may turn. -/
theorem Holds.keep {E E' : Env} {h : List Blk} {W W' : World} (hh : Holds E h W) (hE : Agree h.length E E') (hW : ∀ k, k < W.heap.size → W'.heap[k]? = W.heap[k]?) : Holds E' h W' := by
  refine ⟨fun b blk hb => ?_, fun b b' blk blk' hb hb' hm hl hl' he => ?_⟩
  · refine (hh.ok b blk hb).frame (getElem?_lt hb) hE (Nat.le_refl _) (fun o ho => ?_)
    rw [hW _ (Array.getElem?_eq_some_iff.1 ho).1]; exact ho
  · rw [liveAt_agree hE (getElem?_lt hb)] at hl
    rw [liveAt_agree hE (getElem?_lt hb')] at hl'
    rw [hE.blk _ (getElem?_lt hb), hE.blk _ (getElem?_lt hb')] at he
    exact hh.inj b b' blk blk' hb hb' hm hl hl' he

def Env.put (E : Env) (n k len cap : Nat) (nil : Bool) : Env :=
  { blk := fun b => if b = n then k else E.blk b, delta := fun b => if b = n then 0 else E.delta b, len := fun b => if b = n then len else E.len b,
    cap := fun b => if b = n then cap else E.cap b, isnil := fun b => if b = n then nil else E.isnil b, base := E.base }
theorem Agree.put (E : Env) (n k len cap : Nat) (nil : Bool) : Agree n E (E.put n k len cap nil) :=
  ⟨fun b hb => if_neg (by omega), fun b hb => if_neg (by omega), fun b hb => if_neg (by omega), fun b hb => if_neg (by omega), fun b hb => if_neg (by omega), fun b hb => rfl⟩

theorem getElem?_snoc {α : Type} {l : List α} {y : α} {i : Nat} {x : α} (h : (l ++ [y])[i]? = some x) : l[i]? = some x ∨ (i = l.length ∧ x = y) := by
  rcases Nat.lt_or_ge i l.length with h' | h'
  · rw [List.getElem?_append_left h'] at h; exact .inl h
  · rw [List.getElem?_append_right h'] at h
    have : i - l.length = 0 := by
      rcases Nat.lt_or_ge 0 (i - l.length) with h1 | h1
      · rw [List.getElem?_eq_none (by simp; omega)] at h; cases h
      · omega
    rw [this] at h
    simp only [List.getElem?_cons_zero, Option.some.injEq] at h
    exact .inr ⟨by omega, h.symm⟩

/-- A new block: what it says holds; it is new, or it is the block of one of ours that is given up. -/
theorem Holds.snoc {E' : Env} {h : List Blk} {W' : World} {blk : Blk} (hh : Holds E' h W') (hnew : BlkOk E' (h.length + 1) W' h.length blk)
    (hinj : ∀ b blk', h[b]? = some blk' → liveAt E' b blk' = true → liveAt E' h.length blk = true → (blk.mine = true ∨ blk'.mine = true) → E'.blk b ≠ E'.blk h.length) : Holds E' (h ++ [blk]) W' := by
  refine ⟨fun b x hb => ?_, fun b b' x x' hb hb' hm hl hl' he => ?_⟩
  · rcases getElem?_snoc hb with hb | ⟨rfl, rfl⟩
    · rw [List.length_append]
      exact (hh.ok b x hb).frame (getElem?_lt hb) (Agree.refl _ _) (by simp) (fun o ho => ho)
    · rw [List.length_append]; exact hnew
  · rcases getElem?_snoc hb with k1 | ⟨e1, e2⟩ <;> rcases getElem?_snoc hb' with k2 | ⟨e3, e4⟩
    · exact hh.inj b b' x x' k1 k2 hm hl hl' he
    · subst e3; subst e4; exact absurd he (hinj b x k1 hl hl' (.inr hm))
    · subst e1; subst e2; exact absurd he.symm (hinj b' x' k2 hl' hl (.inl hm))
    · rw [e1, e3]

theorem Mine.snoc {E : Env} {h : List Blk} {blk : Blk} {k : Nat} (hm : Mine E (h ++ [blk]) k) : Mine E h k ∨ E.blk h.length = k := by
  obtain ⟨b, x, hb, h1, h2, h3⟩ := hm
  rcases getElem?_snoc hb with hb | ⟨rfl, rfl⟩
  · exact .inl ⟨b, x, hb, h1, h2, h3⟩
  · exact .inr h3

theorem Mine.agree {E E' : Env} {h : List Blk} {k : Nat} (hE : Agree h.length E E') (hm : Mine E' h k) : Mine E h k := by
  obtain ⟨b, x, hb, h1, h2, h3⟩ := hm
  exact ⟨b, x, hb, h1, by rw [← liveAt_agree hE (getElem?_lt hb)]; exact h2, by rw [← hE.blk _ (getElem?_lt hb)]; exact h3⟩

/-- A block that is made. -/
theorem Holds.allocR {E : Env} {h : List Blk} {W : World} (hh : Holds E h W) (ty : TypeId) (row : Row) (hl : inSs h.length row.toVs = true) :
    Holds (E.put h.length W.heap.size 0 0 false) (h ++ [.own ty row]) (W.alloc (.cells (concs E row.toVs).toArray ty)) ∧
    Trans E h W (E.put h.length W.heap.size 0 0 false) (h ++ [.own ty row]) (W.alloc (.cells (concs E row.toVs).toArray ty)) := by
  have hE := Agree.put E h.length W.heap.size 0 0 false
  have hold : ∀ k, k < W.heap.size → (W.alloc (.cells (concs E row.toVs).toArray ty)).heap[k]? = W.heap[k]? := fun k hk => by
    show (W.heap.push _)[k]? = _
    rw [Array.getElem?_push, if_neg (by omega)]
  have e0 : (E.put h.length W.heap.size 0 0 false).blk h.length = W.heap.size := if_pos rfl
  have hk : Holds (E.put h.length W.heap.size 0 0 false) h (W.alloc (.cells (concs E row.toVs).toArray ty)) := hh.keep hE hold
  refine ⟨Holds.snoc hk ⟨if_pos rfl, inSs_mono (Nat.le_succ _) _ hl, (0, 0), fun o _ hx => Nat.not_lt_zero _ hx.2, ?_⟩ (fun b blk' hb hlv _ _ he => ?_), ⟨hE, by simp, fun k hm => ?_, fun k hk _ => hold k hk, by simp, rfl, rfl, rfl⟩⟩
  · rw [e0]
    rw [concs_agree hE _ hl]
    show (W.heap.push _)[W.heap.size]? = _
    simp
  · rw [e0, hE.blk _ (getElem?_lt hb)] at he
    rw [liveAt_agree hE (getElem?_lt hb)] at hlv
    have := (hh.ok b blk' hb).lt hlv
    omega
  · rcases hm.snoc with h1 | h1
    · exact .inl (h1.agree hE)
    · rw [e0] at h1; exact .inr (by omega)

theorem Holds.alloc {E : Env} {h : List Blk} {W : World} (hh : Holds E h W) (ty : TypeId) (l : List V) (hl : inSs h.length l = true) :
    Holds (E.put h.length W.heap.size 0 0 false) (h ++ [.own ty (.vs l)]) (W.alloc (.cells (concs E l).toArray ty)) ∧
    Trans E h W (E.put h.length W.heap.size 0 0 false) (h ++ [.own ty (.vs l)]) (W.alloc (.cells (concs E l).toArray ty)) := hh.allocR ty (.vs l) hl

/-- A block of ours is written: the same cells, but for the row. -/
theorem Holds.write {E : Env} {h : List Blk} {W : World} (hh : Holds E h W) {b : Nat} {blk blk' : Blk} (hb : h[b]? = some blk) (hm : blk.mine = true) (hm' : blk'.mine = true) (hlv : liveAt E b blk' = liveAt E b blk) (hl : liveAt E b blk = true) {o : Obj}
    (hnew : BlkOk E h.length (World.putObj W (E.blk b) o) b blk') :
    Holds E (setB h b blk') (World.putObj W (E.blk b) o) ∧ Trans E h W E (setB h b blk') (World.putObj W (E.blk b) o) := by
  have hlt := getElem?_lt hb
  have cas : ∀ {b' x}, (setB h b blk')[b']? = some x → (b' = b ∧ x = blk') ∨ (b' ≠ b ∧ h[b']? = some x) := fun {b' x} hx => by
    rw [setB_eq] at hx
    by_cases e : b' = b
    · subst e; rw [List.getElem?_set_self hlt] at hx; injection hx with hx; exact .inl ⟨rfl, hx.symm⟩
    · rw [List.getElem?_set_ne (Ne.symm e)] at hx; exact .inr ⟨e, hx⟩
  have hlen : (setB h b blk').length = h.length := by rw [setB_eq]; simp
  refine ⟨⟨fun b' x hx => ?_, fun b1 b2 x1 x2 h1 h2 m1 l1 l2 he => ?_⟩, ⟨Agree.refl _ _, by rw [hlen]; exact Nat.le_refl _, fun k hk => .inl ?_, fun k hk hn => ?_, by simp, rfl, rfl, rfl⟩⟩
  · rw [hlen]
    rcases cas hx with ⟨rfl, rfl⟩ | ⟨hne, hx⟩
    · exact hnew
    · cases hlx : liveAt E b' x with
      | false => exact (hh.ok b' x hx).absent (getElem?_lt hx) (Agree.refl _ _) (Nat.le_refl _) hlx
      | true =>
        have hd : E.blk b ≠ E.blk b' := fun he => hne (hh.inj b b' blk x hb hx hm hl hlx he).symm
        exact (hh.ok b' x hx).frame (getElem?_lt hx) (Agree.refl _ _) (Nat.le_refl _) (fun o ho => by rw [putObj_get hd]; exact ho)
  · rcases cas h1 with ⟨e1, e2⟩ | ⟨n1, k1⟩ <;> rcases cas h2 with ⟨e3, e4⟩ | ⟨n2, k2⟩
    · rw [e1, e3]
    · subst e1; exact hh.inj _ _ _ _ hb k2 hm hl l2 he
    · subst e3; exact hh.inj _ _ _ _ k1 hb m1 l1 hl he
    · exact hh.inj _ _ _ _ k1 k2 m1 l1 l2 he
  · obtain ⟨b', x, hx, h1, h2, h3⟩ := hk
    rcases cas hx with ⟨rfl, rfl⟩ | ⟨_, hx⟩
    · exact ⟨b', blk, hb, hm, hl, h3⟩
    · exact ⟨b', x, hx, h1, h2, h3⟩
  · have hd : E.blk b ≠ k := fun he => hn ⟨b, blk, hb, hm, hl, he⟩
    exact putObj_get hd

/-- A block of ours is given up. -/
theorem Holds.kill {E : Env} {h : List Blk} {W : World} (hh : Holds E h W) (b : Nat) : Holds E (setB h b .dead) W ∧ Trans E h W E (setB h b .dead) W := by
  have hlen : (setB h b .dead).length = h.length := by rw [setB_eq]; simp
  have cas : ∀ {b' x}, (setB h b .dead)[b']? = some x → x = Blk.dead ∨ h[b']? = some x := fun {b' x} hx => by
    rw [setB_eq] at hx
    by_cases e : b' = b
    · subst e
      rcases Nat.lt_or_ge b' h.length with hlt | hge
      · rw [List.getElem?_set_self hlt] at hx; injection hx with hx; exact .inl hx.symm
      · rw [List.getElem?_eq_none (by simpa using hge)] at hx; cases hx
    · rw [List.getElem?_set_ne (Ne.symm e)] at hx; exact .inr hx
  refine ⟨⟨fun b' x hx => ?_, fun b1 b2 x1 x2 h1 h2 m1 l1 l2 he => ?_⟩, ⟨Agree.refl _ _, by rw [hlen]; exact Nat.le_refl _, fun k hk => .inl ?_, fun _ _ _ => rfl, Nat.le_refl _, rfl, rfl, rfl⟩⟩
  · rw [hlen]
    rcases cas hx with rfl | hx
    · trivial
    · exact hh.ok b' x hx
  · rcases cas h1 with e1 | k1
    · rw [e1] at m1; simp [Blk.mine] at m1
    · rcases cas h2 with e2 | k2
      · rw [e2] at l2; simp [liveAt] at l2
      · exact hh.inj _ _ _ _ k1 k2 m1 l1 l2 he
  · obtain ⟨b', x, hx, h1, h2, h3⟩ := hk
    rcases cas hx with rfl | hx
    · simp [Blk.mine] at h1
    · exact ⟨b', x, hx, h1, h2, h3⟩

end Go.Eng

/- ENGINE, PART 3b: a block that nothing names; what is kept of the memory. -/
namespace Go.Eng
open Go

/-- All that was there stays. -/
structure Keeps (W W' : World) : Prop where
  block : ∀ k, k < W.heap.size → W'.heap[k]? = W.heap[k]?
  size : W.heap.size ≤ W'.heap.size
  os : W'.os = W.os
  tape : W'.tape = W.tape
  output : W'.output = W.output
theorem Keeps.alloc (W : World) (ob : Obj) : Keeps W (W.alloc ob) := ⟨fun k hk => by
  show (W.heap.push _)[k]? = _
  rw [Array.getElem?_push, if_neg (by omega)], by simp, rfl, rfl, rfl⟩
def Env.one (E : Env) (i blk delta len cap : Nat) (nil : Bool) (ba : Option Addr) : Env :=
  { blk := fun b => if b = i then blk else E.blk b, delta := fun b => if b = i then delta else E.delta b, len := fun b => if b = i then len else E.len b,
    cap := fun b => if b = i then cap else E.cap b, isnil := fun b => if b = i then nil else E.isnil b, base := fun b => if b = i then ba else E.base b }
theorem Agree.one (E : Env) (i blk delta len cap : Nat) (nil : Bool) (ba : Option Addr) : Agree i E (E.one i blk delta len cap nil ba) :=
  ⟨fun _ hb => if_neg (by omega), fun _ hb => if_neg (by omega), fun _ hb => if_neg (by omega), fun _ hb => if_neg (by omega), fun _ hb => if_neg (by omega), fun _ hb => if_neg (by omega)⟩

/-! ### a block that nothing names -/
theorem nbeq_iff {b n : Nat} : (!(Nat.beq b n)) = true ↔ b ≠ n := by
  cases h : Nat.beq b n with
  | true => simp [Nat.eq_of_beq_eq_true h]
  | false => simp [Nat.ne_of_beq_eq_false h]
mutual
def noV (n : Nat) : V → Bool
  | .ptr b _ => !(Nat.beq b n)
  | .view b _ _ _ => !(Nat.beq b n)
  | .aslice b _ _ _ => !(Nat.beq b n)
  | .gs b => !(Nat.beq b n)
  | .yield b => !(Nat.beq b n)
  | .func _ caps => noVs n caps
  | .agg l => noVs n l
  | .tuple l => noVs n l
  | _ => true
def noVs (n : Nat) : List V → Bool
  | [] => true
  | v :: r => noV n v && noVs n r
end
def noRow (n : Nat) : Row → Bool
  | .vs l => noVs n l
  | _ => true
def noBlk (n : Nat) : Blk → Bool
  | .dead => true
  | .defs => true
  | .loopB _ _ tmps _ _ _ d => noVs n tmps && !(Nat.beq d n)
  | .ro r => noRow n r
  | .glob _ r => noRow n r
  | .rs _ _ r => noRow n r
  | .own _ r => noRow n r
  | .grow _ _ _ r => noRow n r
  | .lent b0 n0 _ _ _ r => !(Nat.beq b0 n) && (!(Nat.beq n0 n) && noRow n r)
  | .raw .. => true
theorem noVs_eq (n : Nat) (l : List V) : noVs n l = l.all (noV n) := by
  induction l with
  | nil => rfl
  | cons v r ih => simp [noVs, ih]
mutual
theorem noV_of_inS {m n : Nat} (h : m ≤ n) : ∀ v, inS m v = true → noV n v = true
  | .bool _, _ | .int _ _, _ | .str _, _ | .flat _, _ | .glob _ _, _ => by simp [noV]
  | .ptr b off, hs => by simp [inS] at hs; simp only [noV]; exact nbeq_iff.2 (by omega)
  | .view b l sz len, hs => by simp [inS] at hs; simp only [noV]; exact nbeq_iff.2 (by omega)
  | .aslice b off len cap, hs => by simp [inS] at hs; simp only [noV]; exact nbeq_iff.2 (by omega)
  | .gs b, hs => by simp [inS] at hs; simp only [noV]; exact nbeq_iff.2 (by omega)
  | .yield b, hs => by simp [inS] at hs; simp only [noV]; exact nbeq_iff.2 (by omega)
  | .func f caps, hs => by simp only [noV]; exact noVs_of_inS h caps (by simpa [inS] using hs)
  | .agg l, hs => by simp only [noV]; exact noVs_of_inS h l (by simpa [inS] using hs)
  | .tuple l, hs => by simp only [noV]; exact noVs_of_inS h l (by simpa [inS] using hs)
  | .top, hs => by simp [inS] at hs
theorem noVs_of_inS {m n : Nat} (h : m ≤ n) : ∀ l, inSs m l = true → noVs n l = true
  | [], _ => rfl
  | v :: r, hs => by
    simp only [inSs, Bool.and_eq_true] at hs
    simp only [noVs, Bool.and_eq_true]
    exact ⟨noV_of_inS h v hs.1, noVs_of_inS h r hs.2⟩
end
section
variable {E : Env} {n k dl ln cp : Nat} {nl : Bool} {ba : Option Addr}
mutual
theorem conc_one : ∀ v, noV n v = true → conc (E.one n k dl ln cp nl ba) v = conc E v
  | .bool _, _ | .int _ _, _ | .str _, _ | .flat _, _ | .glob _ _, _ | .top, _ => by simp [conc]
  | .ptr b off, hs => by simp only [noV] at hs; simp [conc, Env.one, nbeq_iff.1 hs]
  | .view b l sz len, hs => by simp only [noV] at hs; simp [conc, Env.one, nbeq_iff.1 hs]
  | .aslice b off len cap, hs => by simp only [noV] at hs; simp [conc, Env.one, nbeq_iff.1 hs]
  | .gs b, hs => by simp only [noV] at hs; simp [conc, Env.one, nbeq_iff.1 hs]
  | .yield b, hs => by simp only [noV] at hs; simp [conc, Env.one, nbeq_iff.1 hs]
  | .func f caps, hs => by simp only [conc]; rw [concs_one caps (by simpa [noV] using hs)]
  | .agg l, hs => by simp only [conc]; rw [concs_one l (by simpa [noV] using hs)]
  | .tuple l, hs => by simp only [conc]; rw [concs_one l (by simpa [noV] using hs)]
theorem concs_one : ∀ l, noVs n l = true → concs (E.one n k dl ln cp nl ba) l = concs E l
  | [], _ => rfl
  | v :: r, hs => by
    simp only [noVs, Bool.and_eq_true] at hs
    simp only [concs]; rw [conc_one v hs.1, concs_one r hs.2]
end
theorem noRow_vs {r : Row} (h : noRow n r = true) : ∀ v ∈ r.toVs, noV n v = true := by
  cases r with
  | vs l => simp only [noRow, noVs_eq, List.all_eq_true] at h; exact h
  | ints k l => intro v hv; simp only [Row.toVs, List.mem_map] at hv; obtain ⟨x, _, rfl⟩ := hv; rfl
  | strs l => intro v hv; simp only [Row.toVs, List.mem_map] at hv; obtain ⟨x, _, rfl⟩ := hv; rfl
theorem noRow_vss {r : Row} (h : noRow n r = true) : noVs n r.toVs = true := by
  rw [noVs_eq, List.all_eq_true]; exact noRow_vs h
theorem noRow_of_inS {m : Nat} (h : m ≤ n) {r : Row} (hr : inSs m r.toVs = true) : noRow n r = true := by
  cases r with
  | vs l => exact noVs_of_inS h l hr
  | _ => rfl
theorem VR.one {m : Nat} {v : V} {x : Value} (h : VR E m v x) (hn : noV n v = true) : VR (E.one n k dl ln cp nl ba) m v x := by
  rcases h with h | ⟨h1, h2⟩
  · exact .inl h
  · exact .inr ⟨h1, by rw [h2, conc_one v hn]⟩
theorem noV_of_VR {m : Nat} {v : V} {x : Value} (h : VR E m v x) (hm : m ≤ n) : noV n v = true := by
  rcases h with h | ⟨h1, _⟩
  · subst h; rfl
  · exact noV_of_inS hm v h1
theorem noBlk_of_ok {m b : Nat} {W : World} {blk : Blk} (h : BlkOk E m W b blk) (hm : m ≤ n) : noBlk n blk = true := by
  cases blk with
  | dead => rfl
  | defs => rfl
  | loopB st me tmps ps assign body d =>
    obtain ⟨hd, fn, vs, ⟨_, hv⟩, _⟩ := h
    simp only [noBlk, Bool.and_eq_true, noVs_eq, List.all_eq_true]
    refine ⟨fun v hx => ?_, nbeq_iff.2 (by omega)⟩
    obtain ⟨i, hi⟩ := List.getElem?_of_mem hx
    obtain ⟨x, _, hr⟩ := hv i v hi
    exact noV_of_VR hr hm
  | ro row => exact noRow_of_inS hm h.1
  | glob g row => exact noRow_of_inS hm h.2.2.1
  | rs nn sz row => exact noRow_of_inS hm h.1
  | own ty row => exact noRow_of_inS hm h.2.1
  | grow nn ty sz row => exact noRow_of_inS hm h.2.1
  | lent b0 n0 nn ty sz row =>
    obtain ⟨k1, k2, hs, _⟩ := h
    simp only [noBlk, Bool.and_eq_true]
    exact ⟨nbeq_iff.2 (by omega), nbeq_iff.2 (by omega), noRow_of_inS hm hs⟩
  | raw ty sz m => rfl
theorem BlkOk.one {m b : Nat} {W W' : World} {blk : Blk} (h : BlkOk E m W b blk) (hb : b ≠ n) (hn : noBlk n blk = true)
    (hW : ∀ o, W.heap[E.blk b]? = some o → W'.heap[E.blk b]? = some o) : BlkOk (E.one n k dl ln cp nl ba) m W' b blk := by
  have e1 : (E.one n k dl ln cp nl ba).blk b = E.blk b := if_neg hb
  have e2 : (E.one n k dl ln cp nl ba).delta b = E.delta b := if_neg hb
  have e3 : (E.one n k dl ln cp nl ba).len b = E.len b := if_neg hb
  have e4 : (E.one n k dl ln cp nl ba).cap b = E.cap b := if_neg hb
  have e5 : (E.one n k dl ln cp nl ba).isnil b = E.isnil b := if_neg hb
  cases blk with
  | dead => trivial
  | defs => unfold BlkOk at *; rw [e1]; exact hW _ h
  | loopB st me tmps ps assign body d =>
    obtain ⟨hd, fn, vs, ⟨hv1, hv2⟩, hc⟩ := h
    simp only [noBlk, Bool.and_eq_true, noVs_eq, List.all_eq_true] at hn
    have hdn : d ≠ n := nbeq_iff.1 hn.2
    refine ⟨hd, fn, vs, ⟨hv1, fun i v hi => ?_⟩, by rw [e1]; rw [show (E.one n k dl ln cp nl ba).blk d = E.blk d from if_neg hdn]; exact hW _ hc⟩
    obtain ⟨x, hx, hr⟩ := hv2 i v hi
    exact ⟨x, hx, hr.one (hn.1 v (List.mem_of_getElem? hi))⟩
  | ro row =>
    refine ⟨h.1, fun i v hi => ?_⟩
    rw [e1, e2, conc_one v (noRow_vs hn v (List.mem_of_getElem? hi))]
    exact cell_of_heap (h.2 i v hi) hW
  | glob g row =>
    obtain ⟨hg, hd, hs, hc⟩ := h
    refine ⟨by rw [e1]; exact hg, by rw [e2]; exact hd, hs, fun i v hi => ?_⟩
    rw [e1, e2, conc_one v (noRow_vs hn v (List.mem_of_getElem? hi))]
    exact cell_of_heap (hc i v hi) hW
  | rs nn sz row =>
    obtain ⟨hs, hz, hl, hle, hnil, hc⟩ := h
    refine ⟨hs, hz, by rw [e3]; exact hl, by rw [e3, e4]; exact hle, fun h => hnil (by rw [← e5]; exact h), fun h i v hi => ?_⟩
    rw [e1, e2, conc_one v (noRow_vs hn v (List.mem_of_getElem? hi))]
    exact cell_of_heap (hc (by rw [← e5]; exact h) i v hi) hW
  | own ty row =>
    obtain ⟨hd, hs, fz, hfz, hc⟩ := h
    exact ⟨by rw [e2]; exact hd, hs, fz, hfz, by rw [e1, concs_one _ (noRow_vss hn)]; exact hW _ hc⟩
  | grow nn ty sz row =>
    obtain ⟨hd, hs, hz, hl, hle, hnil, hc⟩ := h
    refine ⟨by rw [e2]; exact hd, hs, hz, by rw [e3]; exact hl, by rw [e3, e4]; exact hle, fun h => hnil (by rw [← e5]; exact h), fun h => ?_⟩
    obtain ⟨fz, spare, hfz, hsz, hc⟩ := hc (by rw [← e5]; exact h)
    exact ⟨fz, spare, hfz, by rw [e4]; exact hsz, by rw [e1, concs_one _ (noRow_vss hn)]; exact hW _ hc⟩
  | lent b0 n0 nn ty sz row =>
    obtain ⟨k1, k2, hs, hd, hz, hl, hle, hnil, hor, hc⟩ := h
    simp only [noBlk, Bool.and_eq_true] at hn
    obtain ⟨hb0, hn0, hn⟩ := hn
    have hb0 : b0 ≠ n := nbeq_iff.1 hb0
    have hn0 : n0 ≠ n := nbeq_iff.1 hn0
    refine ⟨k1, k2, hs, ?_, hz, ?_, ?_, fun h => ?_, fun h => ?_, fun h => ?_⟩
    · simp only [Env.one, if_neg hb0]; exact hd
    · simp only [Env.one, if_neg hb0]; exact hl
    · simp only [Env.one, if_neg hb0]; exact hle
    · simp only [Env.one, if_neg hb0] at h; exact hnil h
    · simp only [Env.one, if_neg hb0, if_neg hn0, if_neg hb] at h ⊢; exact hor h
    · simp only [Env.one, if_neg hb0, if_neg hb] at h ⊢
      obtain ⟨fz, spare, hfz, hsz, hc⟩ := hc h
      have := concs_one (E := E) (n := n) (k := k) (dl := dl) (ln := ln) (cp := cp) (nl := nl) (ba := ba) _ (noRow_vss hn)
      simp only [Env.one] at this
      exact ⟨fz, spare, hfz, hsz, by rw [this]; exact hW _ hc⟩
  | raw ty sz m =>
    obtain ⟨hd, hz, hn, hcp, fz, cells, hl, hfz, hc⟩ := h
    exact ⟨by rw [e2]; exact hd, hz, by rw [e5]; exact hn, by rw [e4]; exact hcp, fz, cells, hl, hfz, by rw [e1]; exact hW _ hc⟩
theorem liveAt_one {b : Nat} (hb : b ≠ n) (blk : Blk) : liveAt (E.one n k dl ln cp nl ba) b blk = liveAt E b blk := by
  cases blk <;> simp [liveAt, Env.one, hb]
end


end Go.Eng

/- ENGINE, PART 4: the operations on values alone. -/
namespace Go.Eng
open Go

inductive HEff where
  | none
  | wr (b : Nat) (blk : Blk)
  | push (n : Nat) (blk : Blk)
  | kpush (b n : Nat) (blk : Blk)
  | mv (b n : Nat) (blk : Blk)
  | all (h : List Blk)
def HEff.app : HEff → List Blk → List Blk
  | .none, h => h
  | .wr b blk, h => setB h b blk
  | .push _ blk, h => h ++ [blk]
  | .kpush b _ blk, h => setB h b .dead ++ [blk]
  | .mv b n blk, h => setB (setB h b .dead) n blk
  | .all h', _ => h'

/-- Frames of functions (none), frames of rounds. -/
def fen (r : Option Nat) : Fence := { fn := fun _ => True, depth := none, alive := false, round := r }
def Oper.wpE (P : Program) (o : Oper) (a : Act) (W : World) (next : Act → World → Prop) (Q : Exit → Act → World → Prop) : Prop :=
  (∀ c, o.op ≠ .defer c) → ∀ r, o.wpIn (fen r) 0 P a W next Q
theorem Oper.wpE_value {P : Program} {o : Oper} {a : Act} {W W' : World} {next : Act → World → Prop} {Q : Exit → Act → World → Prop} {x : Value} (h : (execOp a.eval o).run P W = .ok (.value x) W') (hn : next (a.put o.dst x) W') : Oper.wpE P o a W next Q :=
  fun hd r => ⟨fun _ _ => trivial, by rw [Oper.semAt_eq _ _ _ hd, h]; exact hn⟩
theorem Oper.wpE_skip {P : Program} {o : Oper} {a : Act} {W W' : World} {next : Act → World → Prop} {Q : Exit → Act → World → Prop} (h : (execOp a.eval o).run P W = .ok .skip W') (hn : next (a.put o.dst undef) W') : Oper.wpE P o a W next Q :=
  fun hd r => ⟨fun _ _ => trivial, by rw [Oper.semAt_eq _ _ _ hd, h]; exact hn⟩

/-- What an operation does, over abstract values and an abstract heap. -/
def OpSem (P : Program) (o : Oper) (ev : Operand → V) (h : List Blk) (v : V) (h' : List Blk) : Prop :=
  ∀ (E : Env) (a : Act) (W : World), Holds E h W → (∀ x ∈ o.op.operands, VR E h.length (ev x) (a.eval x)) →
    ∀ (next : Act → World → Prop) (Q : Exit → Act → World → Prop),
      (∀ x E' W', VR E' h'.length v x → Holds E' h' W' → Trans E h W E' h' W' → next (a.put o.dst x) W') → Oper.wpE P o a W next Q

def Same (h h2 : List Blk) (rd : List Nat) : HEff → Prop
  | .none => ∀ b ∈ rd, h2[b]? = h[b]?
  | .wr b _ => (∀ x ∈ rd, h2[x]? = h[x]?) ∧ h2[b]? = h[b]?
  | .push n _ => (∀ x ∈ rd, h2[x]? = h[x]?) ∧ h2.length = n
  | .kpush b n _ => (∀ x ∈ rd, h2[x]? = h[x]?) ∧ h2[b]? = h[b]? ∧ h2.length = n
  | .mv b n _ => (∀ x ∈ rd, h2[x]? = h[x]?) ∧ h2[b]? = h[b]? ∧ h2[n]? = h[n]?
  | .all _ => h2 = h
def OpEff (P : Program) (o : Oper) (ev : Operand → V) (h : List Blk) (v : V) (rd : List Nat) (eff : HEff) : Prop :=
  ∀ h2, Same h h2 rd eff → OpSem P o ev h2 v (eff.app h2)

abbrev KOp (R : Type) := V → List Nat → HEff → Option R
def AopOk {R : Type} (P : Program) (o : Oper) (ev : Operand → V) (h : List Blk) (res : Option R) (K : KOp R) : Prop :=
  ∀ r, res = some r → ∃ v rd eff, K v rd eff = some r ∧ Same h h rd eff ∧ OpEff P o ev h v rd eff

theorem OpSem.value {P : Program} {o : Oper} {ev : Operand → V} {h : List Blk} {v : V}
    (H : ∀ (E : Env) (a : Act) (W : World), Holds E h W → (∀ x ∈ o.op.operands, VR E h.length (ev x) (a.eval x)) → ∃ x, VR E h.length v x ∧ (execOp a.eval o).run P W = .ok (.value x) W) :
    OpSem P o ev h v h := by
  intro E a W hh hv next Q hn
  obtain ⟨x, hx, hr⟩ := H E a W hh hv
  exact Oper.wpE_value hr (hn x E W hx hh (Trans.refl _ _ _))

/-- An operation that looks at no memory. -/
theorem pureOk {R : Type} {P : Program} {o : Oper} {ev : Operand → V} {h : List Blk} {K : KOp R} {r : R} {v : V} (hk : K v [] .none = some r)
    (H : ∀ (n : Nat) (E : Env) (a : Act) (W : World), (∀ x ∈ o.op.operands, VR E n (ev x) (a.eval x)) → ∃ x, VR E n v x ∧ (execOp a.eval o).run P W = .ok (.value x) W) :
    ∃ v rd eff, K v rd eff = some r ∧ Same h h rd eff ∧ OpEff P o ev h v rd eff :=
  ⟨v, [], .none, hk, fun _ _ => rfl, fun h2 _ => OpSem.value fun E a W _ hv => H h2.length E a W hv⟩

section inv
variable {E : Env} {n : Nat} {x : Value}
theorem VR.val {v : V} (h : VR E n v x) (hv : v ≠ .top) : x = conc E v ∧ inS n v = true := (h.resolve_left hv).symm
theorem VR.int {k : IntKind} {m : Int} (h : VR E n (.int k m) x) : x = .int k m := (h.val (by simp)).1
theorem VR.bool {b : Bool} (h : VR E n (.bool b) x) : x = .bool b := (h.val (by simp)).1
theorem VR.str {s : ByteArray} (h : VR E n (.str s) x) : x = .string s := (h.val (by simp)).1
theorem VR.of {v : V} (hs : inS n v = true) : VR E n v (conc E v) := .inr ⟨hs, rfl⟩
theorem VR.mkInt {k : IntKind} {m : Int} : VR E n (.int k m) (.int k m) := .inr ⟨by simp [inS], by simp [conc]⟩
theorem VR.mkBool {b : Bool} : VR E n (.bool b) (.bool b) := .inr ⟨by simp [inS], by simp [conc]⟩
theorem VR.mkStr {s : ByteArray} : VR E n (.str s) (.string s) := .inr ⟨by simp [inS], by simp [conc]⟩
end inv

section ops
variable {R : Type} {P : Program} {o : Oper} {ev : Operand → V} {h : List Blk} {K : KOp R}

/-! ### move, assign, pick -/
theorem ok_move {x : Operand} (ho : o.op = .move x) : AopOk P o ev h (K (ev x) [] .none) K := fun _ hr =>
  pureOk hr fun n E a W hv => ⟨a.eval x, hv x (by simp [ho, Op.operands]), by simp [execOp, ho]⟩
theorem ok_assign {x : Operand} (ho : o.op = .assign x) : AopOk P o ev h (K (ev x) [] .none) K := fun _ hr =>
  pureOk hr fun n E a W hv => ⟨a.eval x, hv x (by simp [ho, Op.operands]), by simp [execOp, ho]⟩

def aPick (c a b : V) (K : KOp R) : Option R :=
  match c with
  | .bool p => cond p (K a [] .none) (K b [] .none)
  | _ => none
theorem ok_pick {c x y : Operand} (ho : o.op = .pick c x y) : AopOk P o ev h (aPick (ev c) (ev x) (ev y) K) K := by
  intro r hr
  unfold aPick at hr
  split at hr
  · rename_i p hc
    cases p
    · refine pureOk (v := ev y) hr fun n E a W hv => ⟨a.eval y, hv y (by simp [ho, Op.operands]), ?_⟩
      have := hv c (by simp [ho, Op.operands])
      rw [hc] at this
      simp [execOp, ho, this.bool, asBool]
    · refine pureOk (v := ev x) hr fun n E a W hv => ⟨a.eval x, hv x (by simp [ho, Op.operands]), ?_⟩
      have := hv c (by simp [ho, Op.operands])
      rw [hc] at this
      simp [execOp, ho, this.bool, asBool]
  · cases hr

/-! ### numbers -/
def sgn (m half full : Int) : Int := bif decide (half ≤ m) then m - full else m
def wr : IntKind → Int → Int
  | .i8, n => sgn (n % 256) 128 256
  | .i16, n => sgn (n % 65536) 32768 65536
  | .i32, n => sgn (n % 4294967296) 2147483648 4294967296
  | .i64, n => sgn (n % 18446744073709551616) 9223372036854775808 18446744073709551616
  | .u8, n => n % 256
  | .u16, n => n % 65536
  | .u32, n => n % 4294967296
  | .u64, n => n % 18446744073709551616
theorem wr_eq (k : IntKind) (n : Int) : k.wrap n = wr k n := by
  cases k <;> simp [IntKind.wrap, IntKind.bits, IntKind.signed, wr, sgn, cond_eq_ite]

def bitsI (op : BinOp) (k : IntKind) (a b : Int) : Int :=
  let x := BitVec.ofInt k.bits a
  let y := BitVec.ofInt k.bits b
  wr k (match op with
    | .and => (x &&& y).toNat
    | .or => (x ||| y).toNat
    | .xor => (x ^^^ y).toNat
    | _ => (x &&& ~~~y).toNat)

def shAmt (k : IntKind) (y : Int) : Nat := min y.toNat k.bits

def aBinInt (op : BinOp) (k : IntKind) (a : Int) (k' : IntKind) (b : Int) (K : KOp R) : Option R :=
  match op with
  | .shl => cond (decide (b < 0)) none (K (.int k (wr k (a * 2 ^ shAmt k b))) [] .none)
  | .shr => cond (decide (b < 0)) none (K (.int k (a.fdiv (2 ^ shAmt k b))) [] .none)
  | op => match decide (k = k') with
    | false => none
    | true => match op with
      | .add => K (.int k (wr k (a + b))) [] .none
      | .sub => K (.int k (wr k (a - b))) [] .none
      | .mul => K (.int k (wr k (a * b))) [] .none
      | .quo => cond (decide (b = 0)) none (K (.int k (wr k (a.tdiv b))) [] .none)
      | .rem => cond (decide (b = 0)) none (K (.int k (a.tmod b)) [] .none)
      | .and => K (.int k (bitsI .and k a b)) [] .none
      | .or => K (.int k (bitsI .or k a b)) [] .none
      | .xor => K (.int k (bitsI .xor k a b)) [] .none
      | .andNot => K (.int k (bitsI .andNot k a b)) [] .none
      | .eql => K (.bool (decide (a = b))) [] .none
      | .neq => K (.bool (!decide (a = b))) [] .none
      | .lss => K (.bool (decide (a < b))) [] .none
      | .leq => K (.bool (decide (a ≤ b))) [] .none
      | .gtr => K (.bool (decide (b < a))) [] .none
      | .geq => K (.bool (decide (b ≤ a))) [] .none
      | _ => none

theorem eqGuard_int {P : Program} (op : BinOp) (t : TypeId) (x y : Operand) (k k' : IntKind) (a b : Int) (W : World) : (eqGuard op t x y (.int k a) (.int k' b)).run P W = .ok () W := by
  unfold eqGuard
  split <;> simp

theorem beqI (a b : Int) : (a == b) = decide (a = b) := by rw [Bool.eq_iff_iff]; simp
theorem run_binInt {op : BinOp} {k k' : IntKind} {a b : Int} {r : R} {t : TypeId} (hr : aBinInt op k a k' b K = some r) :
    ∃ v, K v [] .none = some r ∧ ∃ z, (∀ (E : Env) n, VR E n v z) ∧ ∀ W, (binOp op t (.int k a) (.int k' b)).run P W = .ok z W := by
  by_cases hs : op = .shl ∨ op = .shr
  · rcases hs with rfl | rfl
    · unfold aBinInt at hr
      cases hb : decide (b < 0) with
      | true => simp [hb] at hr
      | false =>
        rw [hb] at hr
        refine ⟨_, hr, _, fun E n => VR.mkInt, fun W => ?_⟩
        simp at hb
        simp only [binOp, Op.shift]
        rw [if_neg (by omega)]
        simp [wr_eq, shAmt]
    · unfold aBinInt at hr
      cases hb : decide (b < 0) with
      | true => simp [hb] at hr
      | false =>
        rw [hb] at hr
        refine ⟨_, hr, _, fun E n => VR.mkInt, fun W => ?_⟩
        simp at hb
        simp only [binOp, Op.shift]
        rw [if_neg (by omega)]
        simp [shAmt]
  · have hk : k = k' := by
      cases op <;> simp at hs <;> (unfold aBinInt at hr; simp only at hr; split at hr <;> simp_all)
    subst hk
    cases op <;> simp at hs <;> simp only [aBinInt, decide_true] at hr
    case quo =>
      cases hb : decide (b = 0) with
      | true => simp [hb] at hr
      | false =>
        rw [hb] at hr
        simp at hb
        exact ⟨_, hr, _, fun E n => VR.mkInt, fun W => by simp [binOp, Op.intDiv, hb, wr_eq]⟩
    case rem =>
      cases hb : decide (b = 0) with
      | true => simp [hb] at hr
      | false =>
        rw [hb] at hr
        simp at hb
        exact ⟨_, hr, _, fun E n => VR.mkInt, fun W => by simp [binOp, Op.intDiv, hb]⟩
    all_goals first
      | exact ⟨_, hr, _, fun E n => VR.mkInt, fun W => by simp [binOp, Op.intArith, Op.intBits, wr_eq, bitsI]⟩
      | exact ⟨_, hr, _, fun E n => VR.mkBool, fun W => by simp [binOp, Op.intCmp, bne, beqI]⟩
      | cases hr

/-! ### strings and bools -/
def beqBs : List UInt8 → List UInt8 → Bool
  | [], [] => true
  | a :: x, b :: y => cond (decide (a.toNat = b.toNat)) (beqBs x y) false
  | _, _ => false
theorem beqBs_eq (x y : List UInt8) : beqBs x y = (x == y) := by
  induction x generalizing y with
  | nil => cases y <;> rfl
  | cons a x ih =>
    cases y with
    | nil => rfl
    | cons b y =>
      simp only [beqBs, ih, List.cons_beq_cons]
      have : (a == b) = decide (a.toNat = b.toNat) := by
        rw [Bool.eq_iff_iff]; simp [UInt8.toNat_inj]
      rw [this]
      cases decide (a.toNat = b.toNat) <;> rfl
def ltBs : List UInt8 → List UInt8 → Bool
  | _, [] => false
  | [], _ :: _ => true
  | a :: x, b :: y => decide (a.toNat < b.toNat) || (decide (a.toNat = b.toNat) && ltBs x y)
theorem ltBs_eq (x y : List UInt8) : ltBs x y = Op.bytesLess x y := by
  induction x generalizing y with
  | nil => cases y <;> rfl
  | cons a x ih =>
    cases y with
    | nil => rfl
    | cons b y =>
      simp only [ltBs, ih, Op.bytesLess]
      have h1 : (a == b) = decide (a.toNat = b.toNat) := by
        rw [Bool.eq_iff_iff]; simp [UInt8.toNat_inj]
      have h2 : decide (a < b) = decide (a.toNat < b.toNat) := by simp [UInt8.lt_iff_toNat_lt]
      rw [h1, h2]
def strEq (a b : ByteArray) : Bool := beqBs a.data.toList b.data.toList
def strLt (a b : ByteArray) : Bool := ltBs a.data.toList b.data.toList
theorem strEq_eq (a b : ByteArray) : (a.toList == b.toList) = strEq a b := by
  rw [ByteArray.toList_eq, ByteArray.toList_eq, strEq, beqBs_eq]
theorem strLt_eq (a b : ByteArray) : Op.bytesLess a.toList b.toList = strLt a b := by
  rw [ByteArray.toList_eq, ByteArray.toList_eq, strLt, ltBs_eq]
def catS (a b : ByteArray) : ByteArray := ⟨(a.data.toList ++ b.data.toList).toArray⟩
theorem catS_eq (a b : ByteArray) : a ++ b = catS a b := by
  apply ByteArray.ext
  simp [catS]
def lenS (a : ByteArray) : Nat := a.data.toList.length
theorem lenS_eq (a : ByteArray) : a.size = lenS a := by cases a; rfl

def aBinStr (op : BinOp) (a b : ByteArray) (K : KOp R) : Option R :=
  match op with
  | .add => cond (decide (lenS a + lenS b ≤ 9223372036854775807)) (K (.str (catS a b)) [] .none) none
  | .eql => K (.bool (strEq a b)) [] .none
  | .neq => K (.bool (!strEq a b)) [] .none
  | .lss => K (.bool (strLt a b)) [] .none
  | .leq => K (.bool (strLt a b || strEq a b)) [] .none
  | .gtr => K (.bool (!(strLt a b || strEq a b))) [] .none
  | .geq => K (.bool (!strLt a b)) [] .none
  | _ => none
theorem run_binStr {op : BinOp} {a b : ByteArray} {r : R} {t : TypeId} (hr : aBinStr op a b K = some r) :
    ∃ v, K v [] .none = some r ∧ ∃ z, (∀ (E : Env) n, VR E n v z) ∧ ∀ W, (binOp op t (.string a) (.string b)).run P W = .ok z W := by
  cases op <;> simp only [aBinStr] at hr
  case add =>
    cases hb : decide (lenS a + lenS b ≤ 9223372036854775807) with
    | false => simp [hb] at hr
    | true =>
      rw [hb] at hr
      simp only [decide_eq_true_eq] at hb
      refine ⟨_, hr, _, fun E n => VR.mkStr, fun W => ?_⟩
      simp only [binOp, Op.stringOp, lenS_eq]
      rw [if_neg (by simp [IntKind.max, IntKind.signed, IntKind.bits]; omega)]
      simp [catS_eq]
  all_goals first
    | exact ⟨_, hr, _, fun E n => VR.mkBool, fun W => by simp [binOp, Op.stringOp, strEq_eq, strLt_eq]⟩
    | cases hr
theorem eqGuard_str {P : Program} (op : BinOp) (t : TypeId) (x y : Operand) (a b : ByteArray) (W : World) : (eqGuard op t x y (.string a) (.string b)).run P W = .ok () W := by
  unfold eqGuard
  split <;> simp
theorem eqGuard_bool {P : Program} (op : BinOp) (t : TypeId) (x y : Operand) (a b : Bool) (W : World) : (eqGuard op t x y (.bool a) (.bool b)).run P W = .ok () W := by
  unfold eqGuard
  split <;> simp

def tyBool (P : Program) (t : TypeId) : Bool := match P.underlying t with | some .bool => true | _ => false
theorem tyBool_eq {P : Program} {t : TypeId} (h : tyBool P t = true) : P.underlying t = some .bool := by
  unfold tyBool at h; split at h <;> first | assumption | cases h
def eqB (a b : Bool) : Bool := cond a b (!b)
theorem eqB_eq (a b : Bool) : (a == b) = eqB a b := by cases a <;> cases b <;> rfl
def aBinBool (P : Program) (op : BinOp) (t : TypeId) (a b : Bool) (K : KOp R) : Option R :=
  match tyBool P t with
  | false => none
  | true => match op with
    | .eql => K (.bool (eqB a b)) [] .none
    | .neq => K (.bool (!eqB a b)) [] .none
    | _ => none
theorem run_binBool {op : BinOp} {a b : Bool} {r : R} {t : TypeId} (hr : aBinBool P op t a b K = some r) :
    ∃ v, K v [] .none = some r ∧ ∃ z, (∀ (E : Env) n, VR E n v z) ∧ ∀ W, (binOp op t (.bool a) (.bool b)).run P W = .ok z W := by
  unfold aBinBool at hr
  split at hr
  · cases hr
  · rename_i ht
    have ht := tyBool_eq ht
    cases op <;> first | (cases hr; done) | skip
    · exact ⟨_, hr, _, fun E n => VR.mkBool, fun W => by simp [binOp, Op.equal, run_equalIn_bool _ 9999 t a b ht, Op.maxDepth, eqB_eq]⟩
    · exact ⟨_, hr, _, fun E n => VR.mkBool, fun W => by simp [binOp, Op.equal, run_equalIn_bool _ 9999 t a b ht, Op.maxDepth, eqB_eq]⟩

/-! ### arrays and structs: equality -/
def eqCell (P : Program) (e : TypeId) (a b : V) : Option Bool :=
  match P.underlying e, a, b with
  | some (.int _), .int k x, .int k' y => match decide (k = k') with
    | true => some (decide (x = y))
    | false => none
  | some .bool, .bool x, .bool y => some (eqB x y)
  | some .string, .str x, .str y => some (strEq x y)
  | _, _, _ => none
theorem run_eqCell {e : TypeId} {a b : V} {q : Bool} (hq : eqCell P e a b = some q) (E : Env) (d : Nat) (W : World) : (Op.equalIn (d + 1) e (conc E a) (conc E b)).run P W = .ok q W ∧ P.plainKey e = true := by
  unfold eqCell at hq
  split at hq
  · rename_i k x k' y he
    split at hq
    · rename_i hk
      simp only [decide_eq_true_eq] at hk
      subst hk
      injection hq with hq
      subst hq
      exact ⟨by simp [conc, run_equalIn_int W d e _ _ _ _ he, beqI], by simp [Program.plainKey, he]⟩
    · cases hq
  · rename_i x y he
    injection hq with hq
    subst hq
    exact ⟨by simp [conc, run_equalIn_bool W d e _ _ he, eqB_eq], by simp [Program.plainKey, he]⟩
  · rename_i x y he
    injection hq with hq
    subst hq
    exact ⟨by simp [conc, run_equalIn_string W d e _ _ he, strEq_eq], by simp [Program.plainKey, he]⟩
  · cases hq
def eqItemsV (P : Program) (e : TypeId) : List V → List V → Option Bool
  | [], [] => some true
  | a :: x, b :: y => match eqCell P e a b with
    | none => none
    | some p => match eqItemsV P e x y with
      | none => none
      | some q => some (p && q)
  | _, _ => none
theorem run_eqItems {e : TypeId} (E : Env) (d : Nat) (W : World) (hc : P.cellsOf e = 1) (xs ys : List V) : ∀ (x y : List V) (s : Nat) (q : Bool), eqItemsV P e x y = some q → xs.drop s = x → ys.drop s = y →
    (Op.eqItems (d + 1) e (P.cellsOf e) (concs E xs).toArray (concs E ys).toArray (List.range' s x.length)).run P W = .ok q W
  | [], [], s, q, h, _, _ => by
    simp only [eqItemsV, Option.some.injEq] at h
    subst h
    simp [Op.eqItems]
  | a :: x, b :: y, s, q, h, hx, hy => by
    simp only [eqItemsV] at h
    split at h
    · cases h
    · rename_i p hp
      split at h
      · cases h
      · rename_i q' hq'
        injection h with h
        obtain ⟨h1, hpk⟩ := run_eqCell hp E d W
        have gx : (concs E xs).toArray[s * P.cellsOf e]? = some (conc E a) := by
          rw [hc, Nat.mul_one, concs_eq]
          have : xs[s]? = some a := by
            have := congrArg (fun l => l[0]?) hx
            simpa using this
          simp [this]
        have gy : (concs E ys).toArray[s * P.cellsOf e]? = some (conc E b) := by
          rw [hc, Nat.mul_one, concs_eq]
          have : ys[s]? = some b := by
            have := congrArg (fun l => l[0]?) hy
            simpa using this
          simp [this]
        have ih := run_eqItems E d W hc xs ys x y (s + 1) q' hq' (by rw [← List.drop_drop, hx]; rfl) (by rw [← List.drop_drop, hy]; rfl)
        simp only [List.length_cons, List.range'_succ, Op.eqItems, Sem.run_bind, run_part_plain W hpk gx, run_part_plain W hpk gy, Result.andThen_ok, h1]
        subst h
        cases p
        · simp
        · simpa using ih
  | [], _ :: _, _, _, h, _, _ => by simp [eqItemsV] at h
  | _ :: _, [], _, _, h, _, _ => by simp [eqItemsV] at h

def eqFieldsV (P : Program) : List Field → Nat → List V → List V → Option Bool
  | [], _, [], [] => some true
  | f :: fs, s, a :: x, b :: y => match decide (f.name ≠ "_") && Nat.beq f.offset s with
    | false => none
    | true => match eqCell P f.type a b with
      | none => none
      | some p => match eqFieldsV P fs (s + 1) x y with
        | none => none
        | some q => some (p && q)
  | _, _, _, _ => none
theorem run_eqFields (E : Env) (d : Nat) (W : World) (xs ys : List V) : ∀ (fs : List Field) (x y : List V) (s : Nat) (q : Bool), eqFieldsV P fs s x y = some q → xs.drop s = x → ys.drop s = y →
    (Op.eqFields (d + 1) (concs E xs).toArray (concs E ys).toArray fs).run P W = .ok q W
  | [], [], [], s, q, h, _, _ => by
    simp only [eqFieldsV, Option.some.injEq] at h
    subst h
    simp [Op.eqFields]
  | f :: fs, a :: x, b :: y, s, q, h, hx, hy => by
    simp only [eqFieldsV] at h
    split at h
    · cases h
    · rename_i hf
      simp only [Bool.and_eq_true, decide_eq_true_eq] at hf
      have hf2 := Nat.eq_of_beq_eq_true hf.2
      split at h
      · cases h
      · rename_i p hp
        split at h
        · cases h
        · rename_i q' hq'
          injection h with h
          obtain ⟨h1, hpk⟩ := run_eqCell hp E d W
          have gx : (concs E xs).toArray[f.offset]? = some (conc E a) := by
            rw [hf2, concs_eq]
            have : xs[s]? = some a := by
              have := congrArg (fun l => l[0]?) hx
              simpa using this
            simp [this]
          have gy : (concs E ys).toArray[f.offset]? = some (conc E b) := by
            rw [hf2, concs_eq]
            have : ys[s]? = some b := by
              have := congrArg (fun l => l[0]?) hy
              simpa using this
            simp [this]
          have ih := run_eqFields E d W xs ys fs x y (s + 1) q' hq' (by rw [← List.drop_drop, hx]; rfl) (by rw [← List.drop_drop, hy]; rfl)
          simp only [Op.eqFields, hf.1, ne_eq, not_false_eq_true, if_true, Sem.run_bind, run_part_plain W hpk gx, run_part_plain W hpk gy, Result.andThen_ok, h1]
          subst h
          cases p
          · simp
          · simpa using ih
  | [], [], _ :: _, _, _, h, _, _ => by simp [eqFieldsV] at h
  | [], _ :: _, _, _, _, h, _, _ => by simp [eqFieldsV] at h
  | _ :: _, [], _, _, _, h, _, _ => by simp [eqFieldsV] at h
  | _ :: _, _ :: _, [], _, _, h, _, _ => by simp [eqFieldsV] at h

def eqAgg (P : Program) (t : TypeId) (xs ys : List V) : Option Bool :=
  match P.eqGuardType P.depth t with
  | true => none
  | false => match P.underlying t with
    | some (.array n e) => match Nat.beq (P.cellsOf e) 1 && Nat.beq xs.length n with
      | true => eqItemsV P e xs ys
      | false => none
    | some (.struct fs) => match P.stoodInHeld t with
      | true => none
      | false => eqFieldsV P fs.toList 0 xs ys
    | _ => none
theorem run_eqAgg {t : TypeId} {xs ys : List V} {q : Bool} (hq : eqAgg P t xs ys = some q) (E : Env) (W : World) :
    (Op.equalIn 10000 t (.agg (concs E xs).toArray) (.agg (concs E ys).toArray)).run P W = .ok q W ∧ P.eqGuardType P.depth t = false := by
  unfold eqAgg at hq
  split at hq
  · cases hq
  · rename_i hg
    refine ⟨?_, hg⟩
    split at hq
    · rename_i n e hu
      split at hq
      · rename_i hc
        simp only [Bool.and_eq_true] at hc
        have hc1 := Nat.eq_of_beq_eq_true hc.1
        have hc2 := Nat.eq_of_beq_eq_true hc.2
        obtain ⟨i, hi⟩ : ∃ i, P.info? e = some i := by
          cases hi : P.info? e with
          | some i => exact ⟨i, rfl⟩
          | none => simp [Program.cellsOf, hi] at hc1
        rw [run_equalIn_array W 9999 _ _ hu hi, List.range_eq_range', ← hc2]
        exact run_eqItems E 9998 W hc1 xs ys xs ys 0 q hq rfl rfl
      · cases hq
    · rename_i fs hu
      split at hq
      · cases hq
      · rename_i hs
        have hu' : P.underlying t = some (.struct (P.fieldsOf t)) := by simp [Program.fieldsOf, hu]
        rw [run_equalIn_struct W 9999 t _ _ hu' hs]
        have : P.fieldsOf t = fs := by simp [Program.fieldsOf, hu]
        rw [this]
        exact run_eqFields E 9998 W xs ys fs.toList xs ys 0 q hq rfl rfl
    · cases hq
def aBinAgg (P : Program) (op : BinOp) (t : TypeId) (xs ys : List V) (K : KOp R) : Option R :=
  match eqAgg P t xs ys with
  | none => none
  | some q => match op with
    | .eql => K (.bool q) [] .none
    | .neq => K (.bool (!q)) [] .none
    | _ => none

def aBin (P : Program) (op : BinOp) (t : TypeId) (x y : V) (K : KOp R) : Option R :=
  match x, y with
  | .int k a, .int k' b => aBinInt op k a k' b K
  | .bool a, .bool b => aBinBool P op t a b K
  | .str a, .str b => aBinStr op a b K
  | .agg a, .agg b => aBinAgg P op t a b K
  | _, _ => none
theorem ok_bin {op : BinOp} {t yt : TypeId} {x y : Operand} (ho : o.op = .binOp op t x y yt) : AopOk P o ev h (aBin P op t (ev x) (ev y) K) K := by
  intro r hr
  have vr : ∀ {n : Nat} {E : Env} {a : Act}, (∀ z ∈ o.op.operands, VR E n (ev z) (a.eval z)) → VR E n (ev x) (a.eval x) ∧ VR E n (ev y) (a.eval y) := fun hv =>
    ⟨hv x (by simp [ho, Op.operands]), hv y (by simp [ho, Op.operands])⟩
  unfold aBin at hr
  split at hr
  · rename_i k a k' b hx hy
    obtain ⟨v, hk, z, hz, hrun⟩ := run_binInt (P := P) (t := t) hr
    refine pureOk hk fun n E ac W hv => ⟨z, hz E n, ?_⟩
    obtain ⟨h1, h2⟩ := vr hv
    rw [hx] at h1; rw [hy] at h2
    simp only [execOp, ho, h1.int, h2.int, Sem.run_bind, eqGuard_int, Result.andThen_ok, hrun, Sem.run_pure]
  · rename_i a b hx hy
    obtain ⟨v, hk, z, hz, hrun⟩ := run_binBool (P := P) (t := t) hr
    refine pureOk hk fun n E ac W hv => ⟨z, hz E n, ?_⟩
    obtain ⟨h1, h2⟩ := vr hv
    rw [hx] at h1; rw [hy] at h2
    simp only [execOp, ho, h1.bool, h2.bool, Sem.run_bind, eqGuard_bool, Result.andThen_ok, hrun, Sem.run_pure]
  · rename_i a b hx hy
    obtain ⟨v, hk, z, hz, hrun⟩ := run_binStr (P := P) (t := t) hr
    refine pureOk hk fun n E ac W hv => ⟨z, hz E n, ?_⟩
    obtain ⟨h1, h2⟩ := vr hv
    rw [hx] at h1; rw [hy] at h2
    simp only [execOp, ho, h1.str, h2.str, Sem.run_bind, eqGuard_str, Result.andThen_ok, hrun, Sem.run_pure]
  · rename_i a b hx hy
    unfold aBinAgg at hr
    split at hr
    · cases hr
    · rename_i q hq
      have key : ∀ {n : Nat} {E : Env} {ac : Act}, (∀ z ∈ o.op.operands, VR E n (ev z) (ac.eval z)) → ac.eval x = .agg (concs E a).toArray ∧ ac.eval y = .agg (concs E b).toArray := fun hv => by
        obtain ⟨h1, h2⟩ := vr hv
        rw [hx] at h1; rw [hy] at h2
        exact ⟨by rw [(h1.val (by simp)).1, conc], by rw [(h2.val (by simp)).1, conc]⟩
      split at hr
      · refine pureOk hr fun n E ac W hv => ⟨.bool q, VR.mkBool, ?_⟩
        obtain ⟨h1, h2⟩ := key hv
        obtain ⟨h3, h4⟩ := run_eqAgg hq E W
        simp only [execOp, ho, h1, h2, Sem.run_bind, run_eqGuard_agg _ _ _ _ _ _ _ h4, Result.andThen_ok, run_eql_struct, h3, Sem.run_pure]
      · refine pureOk hr fun n E ac W hv => ⟨.bool (!q), VR.mkBool, ?_⟩
        obtain ⟨h1, h2⟩ := key hv
        obtain ⟨h3, h4⟩ := run_eqAgg hq E W
        simp only [execOp, ho, h1, h2, Sem.run_bind, run_eqGuard_agg _ _ _ _ _ _ _ h4, Result.andThen_ok, run_neq_struct, h3, Sem.run_pure]
      · cases hr
  · cases hr

/-! ### other operations on values -/
def aUn (op : UnOp) (x : V) (K : KOp R) : Option R :=
  match op, x with
  | .neg, .int k n => K (.int k (wr k (0 - n))) [] .none
  | .xor, .int k n => K (.int k (bitsI .xor k (bif k.signed then -1 else k.max) n)) [] .none
  | .not, .bool b => K (.bool (!b)) [] .none
  | _, _ => none
theorem ok_un {op : UnOp} {t : TypeId} {x : Operand} (ho : o.op = .unOp op t x) : AopOk P o ev h (aUn op (ev x) K) K := by
  intro r hr
  unfold aUn at hr
  split at hr
  · rename_i k n hx
    refine pureOk hr fun m E ac W hv => ⟨_, VR.mkInt, ?_⟩
    have h1 := hv x (by simp [ho, Op.operands])
    rw [hx] at h1
    simp [execOp, ho, h1.int, Op.unary, Op.intArith, wr_eq]
  · rename_i k n hx
    refine pureOk hr fun m E ac W hv => ⟨_, VR.mkInt, ?_⟩
    have h1 := hv x (by simp [ho, Op.operands])
    rw [hx] at h1
    simp [execOp, ho, h1.int, Op.unary, Op.intBits, wr_eq, bitsI, cond_eq_ite]
  · rename_i b hx
    refine pureOk hr fun m E ac W hv => ⟨_, VR.mkBool, ?_⟩
    have h1 := hv x (by simp [ho, Op.operands])
    rw [hx] at h1
    simp [execOp, ho, h1.bool, Op.unary]
  · cases hr

/-- The text of a code: string(rune(n)). -/
def strI (n : Int) : ByteArray := Utf8.encode n
/-- Conversions that make no memory. -/
def aConvert (P : Program) (src dst : TypeId) (x : V) (K : KOp R) : Option R :=
  match P.underlying src, P.underlying dst, x with
  | some _, some (.int k), .int _ n => K (.int k (wr k n)) [] .none
  | some _, some .string, .str s => K (.str s) [] .none
  | some _, some .string, .int _ n => K (.str (strI n)) [] .none
  | _, _, _ => none
theorem ok_convert {src dst : TypeId} {x : Operand} (ho : o.op = .convert src dst x) : AopOk P o ev h (aConvert P src dst (ev x) K) K := by
  intro r hr
  unfold aConvert at hr
  split at hr
  · rename_i d k k' n hs hd hx
    refine pureOk hr fun m E ac W hv => ⟨_, VR.mkInt, ?_⟩
    have h1 := hv x (by simp [ho, Op.operands])
    rw [hx] at h1
    simp only [execOp, ho, h1.int, Sem.run_bind, convert, run_underlying hs, run_underlying hd, Result.andThen_ok]
    simp [Conv.intToInt, wr_eq]
  · rename_i d s hs hd hx
    refine pureOk hr fun m E ac W hv => ⟨_, VR.mkStr, ?_⟩
    have h1 := hv x (by simp [ho, Op.operands])
    rw [hx] at h1
    simp only [execOp, ho, h1.str, Sem.run_bind, convert, run_underlying hs, run_underlying hd, Result.andThen_ok]
    simp
  · rename_i d k n hs hd hx
    refine pureOk hr fun m E ac W hv => ⟨_, VR.mkStr, ?_⟩
    have h1 := hv x (by simp [ho, Op.operands])
    rw [hx] at h1
    simp only [execOp, ho, h1.int, Sem.run_bind, convert, run_underlying hs, run_underlying hd, Result.andThen_ok]
    simp [Conv.intToString, strI]
  · cases hr

def noTop : List V → Bool
  | [] => true
  | .top :: _ => false
  | _ :: r => noTop r
theorem noTop_mem {l : List V} (h : noTop l = true) : ∀ v ∈ l, v ≠ .top := by
  induction l with
  | nil => intro v hv; cases hv
  | cons u r ih =>
    intro v hv
    cases u <;> simp [noTop] at h <;> (rcases List.mem_cons.1 hv with e | e; (rw [e]; simp); exact ih h v e)
def aMakeFunc (fn : Fn) (first : Array Operand) (caps : List V) (K : KOp R) : Option R :=
  match fn, first.size with
  | .func f, 0 => match noTop caps with
    | true => K (.func f caps) [] .none
    | false => none
  | _, _ => none
theorem VRs_map {E : Env} {n : Nat} {a : Act} : ∀ (l : List Operand), (∀ x ∈ l, VR E n (ev x) (a.eval x)) → noTop (l.map ev) = true → inSs n (l.map ev) = true ∧ l.map a.eval = concs E (l.map ev)
  | [], _, _ => ⟨rfl, rfl⟩
  | x :: r, hv, ht => by
    have hm := noTop_mem ht
    have h1 := (hv x (by simp)).val (hm _ (by simp))
    have ht' : noTop (r.map ev) = true := by
      simp only [List.map_cons] at ht
      cases hx : ev x <;> simp [hx, noTop] at ht <;> exact ht
    obtain ⟨h2, h3⟩ := VRs_map r (fun z hz => hv z (by simp [hz])) ht'
    exact ⟨by simp [inSs, h1.2, h2], by simp [concs, h1.1, h3]⟩
theorem ok_makeFunc {fn : Fn} {first caps : Array Operand} (ho : o.op = .makeFunc fn first caps) : AopOk P o ev h (aMakeFunc fn first (caps.toList.map ev) K) K := by
  intro r hr
  unfold aMakeFunc at hr
  split at hr
  · rename_i f hf
    split at hr
    · rename_i ht
      refine pureOk hr fun m E ac W hv => ?_
      obtain ⟨h1, h2⟩ := VRs_map caps.toList (fun x hx => hv x (by rw [ho]; simp only [Op.operands, Array.mem_append]; exact .inr (by simpa using hx))) ht
      refine ⟨_, VR.of (by simpa [inS] using h1), ?_⟩
      have e1 : first = #[] := Array.eq_empty_of_size_eq_zero hf
      subst e1
      have e2 : caps.map ac.eval = (concs E (caps.toList.map ev)).toArray := by
        rw [← h2]; apply Array.ext'; simp
      simp [execOp, ho, Instr.makeFunc, conc, e2]
    · cases hr
  · cases hr

def getO : List V → Nat → Option V
  | [], _ => none
  | v :: _, 0 => some v
  | _ :: r, n + 1 => getO r n
theorem getO_eq (l : List V) (i : Nat) : getO l i = l[i]? := by
  induction l generalizing i with
  | nil => rfl
  | cons u r ih => cases i <;> simp [getO, ih]
def kO (v : Option V) (K : KOp R) : Option R := match v with
  | some v => K v [] .none
  | none => none
theorem concs_get {E : Env} {l : List V} {i : Nat} {v : V} (h : l[i]? = some v) : (concs E l)[i]? = some (conc E v) := by
  rw [concs_eq]; simp [h]
theorem inSs_get {n : Nat} {l : List V} {i : Nat} {v : V} (h : inSs n l = true) (hi : l[i]? = some v) : inS n v = true := by
  rw [inSs_eq, List.all_eq_true] at h
  exact h v (List.mem_of_getElem? hi)
def aExtract (t : V) (i : Nat) (K : KOp R) : Option R := match t with
  | .tuple l => kO (getO l i) K
  | _ => none
theorem ok_extract {x : Operand} {i : Nat} (ho : o.op = .extract x i) : AopOk P o ev h (aExtract (ev x) i K) K := by
  intro r hr
  unfold aExtract at hr
  split at hr
  · rename_i l hx
    unfold kO at hr
    split at hr
    · rename_i v hi
      rw [getO_eq] at hi
      refine pureOk hr fun m E ac W hv => ?_
      have h1 := hv x (by simp [ho, Op.operands])
      rw [hx] at h1
      obtain ⟨e1, e2⟩ := h1.val (by simp)
      simp only [inS] at e2
      refine ⟨conc E v, VR.of (inSs_get e2 hi), ?_⟩
      simp only [execOp, ho, e1, conc, Instr.extract]
      have := concs_get (E := E) hi
      simp [this]
    · cases hr
  · cases hr

/-- The cells of a part of an aggregate. -/
def takeV : List V → Nat → Nat → Option (List V)
  | _, 0, 0 => some []
  | [], _, _ => none
  | v :: r, 0, n + 1 => match takeV r 0 n with
    | some l => some (v :: l)
    | none => none
  | _ :: r, i + 1, n => takeV r i n
theorem takeV_eq {l : List V} : ∀ {i n : Nat} {m : List V}, takeV l i n = some m → i + n ≤ l.length ∧ m = (l.drop i).take n := by
  induction l with
  | nil =>
    intro i n m h
    cases i <;> cases n <;> simp [takeV] at h
    subst h; simp
  | cons v r ih =>
    intro i n m h
    cases i with
    | zero =>
      cases n with
      | zero => simp [takeV] at h; subst h; simp
      | succ n =>
        simp only [takeV] at h
        split at h
        · rename_i l hl
          injection h with h
          subst h
          obtain ⟨h1, h2⟩ := ih hl
          simp only [List.drop_zero] at h2
          exact ⟨by simp; omega, by simp [h2]⟩
        · cases h
    | succ i =>
      simp only [takeV] at h
      obtain ⟨h1, h2⟩ := ih h
      exact ⟨by simp; omega, by simpa using h2⟩
theorem takeV_ne : ∀ {l : List V} {i n : Nat}, i + n ≤ l.length → takeV l i n ≠ none
  | [], 0, 0, _ => by simp [takeV]
  | [], i + 1, n, h => by simp at h
  | [], 0, n + 1, h => by simp at h
  | v :: r, 0, 0, _ => by simp [takeV]
  | v :: r, 0, n + 1, h => by
    have := takeV_ne (l := r) (i := 0) (n := n) (by simp at h; omega)
    unfold takeV
    split
    · simp
    · rename_i hn; exact absurd hn this
  | v :: r, i + 1, n, h => by
    unfold takeV
    exact takeV_ne (by simp at h; omega)
theorem takeV_some {l : List V} : ∀ {i n : Nat}, i + n ≤ l.length → takeV l i n = some ((l.drop i).take n) := by
  intro i n h
  cases hq : takeV l i n with
  | some m => obtain ⟨_, h2⟩ := takeV_eq hq; rw [h2]
  | none => exact absurd hq (takeV_ne h)
def allInt (k : IntKind) : List V → Option (List Int)
  | [] => some []
  | .int k' n :: r => match decide (k = k') with
    | true => match allInt k r with
      | some l => some (n :: l)
      | none => none
    | false => none
  | _ :: _ => none
theorem allInt_ok {k : IntKind} : ∀ {l : List V} {ns : List Int}, allInt k l = some ns → ns.map (.int k) = l
  | [], _, h => by cases h; rfl
  | v :: r, ns, h => by
    cases v <;> simp only [allInt] at h <;> try cases h
    split at h
    · rename_i hk
      simp only [decide_eq_true_eq] at hk
      split at h
      · rename_i l hl
        cases h
        rw [List.map_cons, allInt_ok hl, hk]
      · cases h
    · cases h
def allStr : List V → Option (List ByteArray)
  | [] => some []
  | .str s :: r => match allStr r with
    | some l => some (s :: l)
    | none => none
  | _ :: _ => none
theorem allStr_ok : ∀ {l : List V} {ss : List ByteArray}, allStr l = some ss → ss.map .str = l
  | [], _, h => by cases h; rfl
  | v :: r, ss, h => by
    cases v <;> simp only [allStr] at h <;> try cases h
    split at h
    · rename_i l hl
      cases h
      rw [List.map_cons, allStr_ok hl]
    · cases h
/-- Cells of a row of whole numbers, from i on. -/
def intsAt (k : IntKind) (l : List Int) : Nat → Nat → List V
  | _, 0 => []
  | i, n + 1 => .int k (l.getD i 0) :: intsAt k l (i + 1) n
theorem intsAt_eq {k : IntKind} {l : List Int} : ∀ {n i : Nat}, i + n ≤ l.length → intsAt k l i n = ((l.map (V.int k)).drop i).take n
  | 0, i, _ => by simp [intsAt]
  | n + 1, i, h => by
    have hi : i < (l.map (V.int k)).length := by simp; omega
    rw [intsAt, intsAt_eq (by omega), List.drop_eq_getElem_cons hi, List.take_succ_cons]
    congr 1
    rw [List.getElem_map, List.getD_eq_getElem?_getD, List.getElem?_eq_getElem (by omega)]
    rfl
/-- Many whole numbers of one kind. -/
def bigInts (l : List V) : Option (IntKind × List Int) := match l with
  | .int k n :: r => match Nat.ble 8 r.length with
    | true => match allInt k (.int k n :: r) with
      | some ns => some (k, ns)
      | none => none
    | false => none
  | _ => none
theorem bigInts_ok {l : List V} {k : IntKind} {ns : List Int} (h : bigInts l = some (k, ns)) : ns.map (.int k) = l := by
  unfold bigInts at h
  split at h
  · split at h
    · split at h
      · rename_i hn
        cases h
        exact allInt_ok hn
      · cases h
    · cases h
  · cases h
def isAggT (P : Program) (t : TypeId) : Option Bool := match P.underlying t with
  | some (.struct _) | some (.array _ _) => some true
  | some _ => some false
  | none => none
theorem run_isAggT {t : TypeId} {b : Bool} (h : isAggT P t = some b) (W : World) : (isAgg t).run P W = .ok b W := by
  unfold isAggT at h
  split at h
  · rename_i d hu; injection h with h; subst h; simp [isAgg, run_underlying hu]
  · rename_i n e hu; injection h with h; subst h; simp [isAgg, run_underlying hu]
  · rename_i d h1 h2 hu
    injection h with h; subst h
    simp only [isAgg, Sem.run_bind, run_underlying hu, Result.andThen_ok]
    cases d <;> first | rfl | (exact absurd rfl (h1 _)) | (exact absurd rfl (h2 _ _))
  · cases h
def szT (P : Program) (t : TypeId) : Option Nat := match P.info? t with
  | some i => some i.size
  | none => none
theorem run_szT {t : TypeId} {n : Nat} (h : szT P t = some n) (W : World) : (sizeOf t).run P W = .ok n W := by
  unfold szT at h
  split at h
  · rename_i i hi; injection h with h; subst h; simp [sizeOf, typeInfo, hi]
  · cases h
/-- The part of an aggregate at a place. -/
def partV (P : Program) (t : TypeId) (l : List V) (off : Nat) : Option V :=
  match isAggT P t with
  | some false => getO l off
  | some true => match szT P t with
    | some n => match takeV l off n with
      | some m => some (.agg m)
      | none => none
    | none => none
  | none => none
theorem run_partV {t : TypeId} {l : List V} {off : Nat} {v : V} (hp : partV P t l off = some v) (E : Env) (n : Nat) (hl : inSs n l = true) (W : World) :
    inS n v = true ∧ (part t (concs E l).toArray off).run P W = .ok (conc E v) W := by
  unfold partV at hp
  split at hp
  · rename_i ha
    rw [getO_eq] at hp
    refine ⟨inSs_get hl hp, ?_⟩
    have := concs_get (E := E) hp
    simp [part, run_isAggT ha, this]
  · rename_i ha
    split at hp
    · rename_i m hm
      split at hp
      · rename_i l' hl'
        injection hp with hp
        subst hp
        obtain ⟨h1, h2⟩ := takeV_eq hl'
        refine ⟨?_, ?_⟩
        · simp only [inS, inSs_eq, List.all_eq_true] at *
          intro x hx
          rw [h2] at hx
          exact hl x (List.mem_of_mem_drop (List.mem_of_mem_take hx))
        · simp only [part, Sem.run_bind, run_isAggT ha, Result.andThen_ok, if_true, run_szT hm, Sem.run_pure]
          have he : (concs E l).toArray.extract off (off + m) = (concs E l').toArray := by
            apply Array.ext'
            rw [h2]
            simp [concs_eq, List.extract]
          rw [he]
          simp only [conc]
      · cases hp
    · cases hp
  · cases hp
def aField (P : Program) (t : TypeId) (x : V) (f : Nat) (K : KOp R) : Option R :=
  match P.underlying t, x with
  | some (.struct fs), .agg l => match fs[f]? with
    | some fd => kO (partV P fd.type l fd.offset) K
    | none => none
  | _, _ => none
theorem ok_field {t : TypeId} {x : Operand} {f : Nat} (ho : o.op = .field t x f) : AopOk P o ev h (aField P t (ev x) f K) K := by
  intro r hr
  unfold aField at hr
  split at hr
  · rename_i fs l hu hx
    split at hr
    · rename_i fd hf
      unfold kO at hr
      split at hr
      · rename_i v hp
        refine pureOk hr fun m E ac W hv => ?_
        have h1 := hv x (by simp [ho, Op.operands])
        rw [hx] at h1
        obtain ⟨e1, e2⟩ := h1.val (by simp)
        simp only [inS] at e2
        obtain ⟨h2, h3⟩ := run_partV hp E m e2 W
        refine ⟨conc E v, VR.of h2, ?_⟩
        simp only [execOp, ho, e1, conc, Instr.field, Sem.run_bind, run_underlying hu, Result.andThen_ok, hf, asAgg, Sem.run_pure, h3]
      · cases hr
    · cases hr
  · cases hr

def aIndex (P : Program) (t : TypeId) (x i : V) (K : KOp R) : Option R :=
  match i, x with
  | .int _ i, .agg l => match P.underlying t with
    | some (.array len e) => match szT P e with
      | some sz => match bigInts l, isAggT P e with
        | some (k, ns), some true => cond (decide (0 ≤ i ∧ i < len)) (cond (Nat.ble (len * sz) ns.length) (K (.agg (intsAt k ns (i.toNat * sz) sz)) [] .none) none) none
        | some (k, ns), some false => cond (decide (0 ≤ i ∧ i < len)) (cond (Nat.ble (len * sz) ns.length && Nat.ble 1 sz) (K (.int k (ns.getD (i.toNat * sz) 0)) [] .none) none) none
        | _, _ => cond (decide (0 ≤ i ∧ i < len)) (kO (partV P e l (i.toNat * sz)) K) none
      | none => none
    | _ => none
  | .int _ i, .str s => match P.underlying t with
    | some .string => cond (decide (0 ≤ i)) (match s.data.toList[i.toNat]? with
        | some b => K (.int .u8 b.toNat) [] .none
        | none => none) none
    | _ => none
  | _, _ => none
theorem ok_index {t : TypeId} {x i : Operand} (ho : o.op = .index t x i) : AopOk P o ev h (aIndex P t (ev x) (ev i) K) K := by
  intro r hr
  unfold aIndex at hr
  split at hr
  · rename_i k n l hi hx
    split at hr
    · rename_i len e hu
      split at hr
      · rename_i sz hsz
        have main : ∀ v, partV P e l (n.toNat * sz) = some v → (0 ≤ n ∧ n < len) → K v [] .none = some r → AopOk P o ev h (some r) K := by
          intro v hp hb hk r2 hr2
          cases hr2
          refine pureOk hk fun m E ac W hv => ?_
          have h1 := hv x (by simp [ho, Op.operands])
          have h0 := hv i (by simp [ho, Op.operands])
          rw [hx] at h1; rw [hi] at h0
          obtain ⟨e1, e2⟩ := h1.val (by simp)
          simp only [inS] at e2
          obtain ⟨h2, h3⟩ := run_partV hp E m e2 W
          refine ⟨conc E v, VR.of h2, ?_⟩
          simp only [execOp, ho, e1, h0.int, conc, Instr.index, Sem.run_bind, asIntOf, Sem.run_pure, run_underlying hu, Result.andThen_ok]
          rw [if_pos hb]
          simp only [Sem.run_bind, run_szT hsz, Result.andThen_ok, h3]
        have fit : ∀ ns : List Int, (0 ≤ n ∧ n < len) → len * sz ≤ ns.length → n.toNat * sz + sz ≤ ns.length := fun ns hb hle => by
          have h1 : (n.toNat + 1) * sz ≤ len * sz := Nat.mul_le_mul_right _ (by omega)
          rw [Nat.add_mul, Nat.one_mul] at h1
          omega
        split at hr
        · rename_i k ns hbi hag
          cases hb : decide (0 ≤ n ∧ n < len) with
          | false => simp [hb] at hr
          | true =>
            rw [hb, cond_true] at hr
            simp only [decide_eq_true_eq] at hb
            cases hc : Nat.ble (len * sz) ns.length with
            | false => rw [hc] at hr; cases hr
            | true =>
              rw [hc, cond_true] at hr
              have hle := fit ns hb (Nat.le_of_ble_eq_true hc)
              refine main _ ?_ hb hr r rfl
              unfold partV
              rw [hag]
              simp only [hsz]
              have ht : takeV l (n.toNat * sz) sz = some (intsAt k ns (n.toNat * sz) sz) := by
                rw [intsAt_eq hle, bigInts_ok hbi]
                exact takeV_some (by rw [← bigInts_ok hbi, List.length_map]; exact hle)
              rw [ht]
        · rename_i k ns hbi hag
          cases hb : decide (0 ≤ n ∧ n < len) with
          | false => simp [hb] at hr
          | true =>
            rw [hb, cond_true] at hr
            simp only [decide_eq_true_eq] at hb
            cases hc : (Nat.ble (len * sz) ns.length && Nat.ble 1 sz) with
            | false => rw [hc] at hr; cases hr
            | true =>
              rw [hc, cond_true] at hr
              simp only [Bool.and_eq_true] at hc
              have hle := fit ns hb (Nat.le_of_ble_eq_true hc.1)
              have hs1 := Nat.le_of_ble_eq_true hc.2
              refine main _ ?_ hb hr r rfl
              unfold partV
              rw [hag]
              simp only
              rw [getO_eq, ← bigInts_ok hbi, List.getElem?_map, List.getElem?_eq_getElem (by omega), List.getD_eq_getElem?_getD, List.getElem?_eq_getElem (by omega)]
              rfl
        · cases hb : decide (0 ≤ n ∧ n < len) with
          | false => simp [hb] at hr
          | true =>
            rw [hb] at hr
            simp only [decide_eq_true_eq] at hb
            simp only [cond_true, kO] at hr
            split at hr
            · rename_i v hp
              exact main v hp hb hr r rfl
            · cases hr
      · cases hr
    · cases hr
  · rename_i k n s hi hx
    split at hr
    · rename_i hu
      cases hb : decide (0 ≤ n) with
      | false => simp [hb] at hr
      | true =>
        rw [hb] at hr
        simp only [decide_eq_true_eq] at hb
        simp only [cond_true] at hr
        split at hr
        · rename_i b hs
          refine pureOk hr fun m E ac W hv => ⟨_, VR.mkInt, ?_⟩
          have h1 := hv x (by simp [ho, Op.operands])
          have h0 := hv i (by simp [ho, Op.operands])
          rw [hx] at h1; rw [hi] at h0
          simp only [execOp, ho, h1.str, h0.int, Instr.index, Sem.run_bind, asIntOf, Sem.run_pure, run_underlying hu, Result.andThen_ok]
          have hg : s[n.toNat]? = some b := by
            obtain ⟨hlt, hg⟩ := List.getElem?_eq_some_iff.1 hs
            have hlt' : n.toNat < s.size := by rw [lenS_eq]; exact hlt
            rw [getElem?_pos s n.toNat hlt']
            congr 1
          rw [if_pos hb, hg]
          rfl
        · cases hr
    · cases hr
  · cases hr

end ops
end Go.Eng

/- ENGINE, PART 5: the operations that read and write memory. -/
namespace Go.Eng
open Go

section
variable {R : Type} {P : Program} {o : Oper} {ev : Operand → V} {h : List Blk} {K : KOp R}

def addS : Nat → Nat → Nat
  | 0, n => n
  | m + 1, n => (m + 1) + n
def mulS (n : Nat) : Nat → Nat
  | 1 => n
  | m => n * m
theorem addS_eq (m n : Nat) : addS m n = m + n := by cases m <;> simp [addS]
theorem mulS_eq (n m : Nat) : mulS n m = n * m := by
  unfold mulS; split <;> simp

/-! ### reading -/
def rowGet (row : Row) (i : Nat) (K : V → Option R) : Option R := match row with
  | .vs l => match getO l i with
    | some v => K v
    | none => none
  | .ints k l => match l[i]? with
    | some n => K (.int k n)
    | none => none
  | .strs l => match l[i]? with
    | some s => K (.str s)
    | none => none
theorem rowGet_ok {row : Row} {i : Nat} {K : V → Option R} {r : R} (hr : rowGet row i K = some r) : ∃ v, row.toVs[i]? = some v ∧ K v = some r := by
  unfold rowGet at hr
  split at hr
  · split at hr
    · rename_i l v hv; rw [getO_eq] at hv; exact ⟨v, hv, hr⟩
    · cases hr
  · split at hr
    · rename_i k l _ n hn; exact ⟨.int k n, by simp [Row.toVs, hn], hr⟩
    · cases hr
  · split at hr
    · rename_i l _ s hs; exact ⟨.str s, by simp [Row.toVs, hs], hr⟩
    · cases hr
def rowTake (row : Row) (i n : Nat) (K : List V → Option R) : Option R := match row with
  | .ints k l => cond (decide (i + n ≤ l.length)) (K (intsAt k l i n)) none
  | row => match takeV row.toVs i n with
    | some m => K m
    | none => none
theorem rowTake_ok {row : Row} {i n : Nat} {K : List V → Option R} {r : R} (hr : rowTake row i n K = some r) : ∃ m, i + n ≤ row.toVs.length ∧ m = (row.toVs.drop i).take n ∧ K m = some r := by
  unfold rowTake at hr
  split at hr
  · rename_i k l
    cases hb : decide (i + n ≤ l.length) with
    | false => rw [hb] at hr; cases hr
    | true =>
      rw [hb, cond_true] at hr
      simp only [decide_eq_true_eq] at hb
      exact ⟨_, by simpa [Row.toVs] using hb, by simp only [Row.toVs]; exact intsAt_eq hb, hr⟩
  · split at hr
    · rename_i m hm
      obtain ⟨h1, h2⟩ := takeV_eq hm
      exact ⟨m, h1, h2, hr⟩
    · cases hr
def loadRow (P : Program) (t : TypeId) (b : Nat) (row : Row) (off : Nat) (K : KOp R) : Option R :=
  match isAggT P t with
  | some false => rowGet row off (fun v => K v [b] .none)
  | some true => match szT P t with
    | some n => rowTake row off n (fun l => K (.agg l) [b] .none)
    | none => none
  | none => none
theorem loadRow_ok {t : TypeId} {b off : Nat} {blk : Blk} {r : R} (hr : loadRow P t b blk.row off K = some r) (hb : getB h b = blk) :
    ∃ v, K v [b] .none = some r ∧ ∀ (h2 : List Blk), h2[b]? = h[b]? → ∀ (E : Env) (W : World), Holds E h2 W → inS h2.length v = true ∧ (loadVar t ⟨E.blk b, E.delta b + off, none⟩).run P W = .ok (conc E v) W := by
  unfold loadRow at hr
  have nd : ∀ {h2 : List Blk} {i : Nat} {v : V}, h2[b]? = h[b]? → blk.row.toVs[i]? = some v → h2[b]? = some blk := fun {h2 i v} he hv => by
    have : blk ≠ .dead := fun e => by rw [e] at hv; simp [Blk.row, Row.toVs] at hv
    rw [he]; exact getB_some hb this
  split at hr
  · rename_i ha
    obtain ⟨v, hv, hk⟩ := rowGet_ok hr
    refine ⟨v, hk, fun h2 he E W hh => ?_⟩
    obtain ⟨h1, h3⟩ := hh.cell (nd he hv) hv
    exact ⟨h3, by simp [loadVar, run_isAggT ha, h1]⟩
  · rename_i ha
    split at hr
    · rename_i n hn
      obtain ⟨m, h1, h2, hk⟩ := rowTake_ok hr
      refine ⟨.agg m, hk, fun h2' he E W hh => ?_⟩
      have hlen : m.length = n := by rw [h2]; simp; omega
      have hg : ∀ j v, m[j]? = some v → blk.row.toVs[off + j]? = some v := fun j v hj => by
        rw [h2, List.getElem?_take] at hj
        split at hj
        · rw [List.getElem?_drop] at hj; exact hj
        · cases hj
      refine ⟨?_, ?_⟩
      · simp only [inS, inSs_eq, List.all_eq_true]
        intro x hx
        obtain ⟨j, hj⟩ := List.getElem?_of_mem hx
        exact (hh.cell (nd he (hg j x hj)) (hg j x hj)).2
      · have hl := run_loadCells_list (P := P) W ⟨E.blk b, E.delta b + off, none⟩ (concs E m) (fun j v hv => by
          rw [concs_eq, List.getElem?_map] at hv
          cases hj : m[j]? with
          | none => rw [hj] at hv; cases hv
          | some u =>
            rw [hj] at hv
            injection hv with hv
            rw [Addr_add_lit, Nat.add_assoc, ← hv]
            exact (hh.cell (nd he (hg j u hj)) (hg j u hj)).1)
        rw [concs_eq, List.length_map, hlen, ← concs_eq] at hl
        simp only [loadVar, Sem.run_bind, run_isAggT ha, Result.andThen_ok, if_true, run_szT hn, hl, Sem.run_pure, conc]
    · cases hr
  · cases hr

def findG : List Blk → Nat → Nat → Option Nat
  | [], _, _ => none
  | .glob g' _ :: r, g, i => cond (Nat.beq g' g) (some i) (findG r g (i + 1))
  | _ :: r, g, i => findG r g (i + 1)
theorem findG_ok : ∀ {h : List Blk} {g i b : Nat}, findG h g i = some b → ∃ row, i ≤ b ∧ h[b - i]? = some (.glob g row)
  | [], _, _, _, hf => by simp [findG] at hf
  | x :: r, g, i, b, hf => by
    have rec_ : findG r g (i + 1) = some b → ∃ row, i ≤ b ∧ (x :: r)[b - i]? = some (.glob g row) := fun hf => by
      obtain ⟨row, h1, h2⟩ := findG_ok hf
      exact ⟨row, by omega, by rw [show b - i = (b - (i + 1)) + 1 by omega]; exact h2⟩
    cases x <;> simp only [findG] at hf <;> try exact rec_ hf
    rename_i g' row
    cases hb : Nat.beq g' g with
    | false => rw [hb] at hf; exact rec_ hf
    | true =>
      rw [hb] at hf
      simp only [cond_true, Option.some.injEq] at hf
      subst hf
      have := Nat.eq_of_beq_eq_true hb
      subst this
      exact ⟨row, Nat.le_refl _, by simp⟩

def aLoad (P : Program) (t : TypeId) (a : V) (h : List Blk) (K : KOp R) : Option R := match a with
  | .ptr b off => loadRow P t b (getB h b).row off K
  | .glob g off => match findG h g 0 with
    | some b => loadRow P t b (getB h b).row off K
    | none => none
  | _ => none
theorem ok_load {t : TypeId} {x : Operand} (ho : o.op = .load t x) : AopOk P o ev h (aLoad P t (ev x) h K) K := by
  intro r hr
  unfold aLoad at hr
  split at hr
  · rename_i b off hx
    obtain ⟨v, hk, H⟩ := loadRow_ok hr rfl
    refine ⟨v, [b], .none, hk, fun _ _ => rfl, fun h2 hs => OpSem.value fun E a W hh hv => ?_⟩
    obtain ⟨h1, h3⟩ := H h2 (hs b (by simp)) E W hh
    have h0 := hv x (by simp [ho, Op.operands])
    rw [hx] at h0
    refine ⟨conc E v, VR.of h1, ?_⟩
    simp only [execOp, ho, (h0.val (by simp)).1, conc, Instr.loadAt, Instr.sureAddr, Sem.run_bind, Sem.run_pure, Result.andThen_ok, h3]
  · rename_i g off hx
    split at hr
    · rename_i b hb
      obtain ⟨row, _, hrow⟩ := findG_ok hb
      rw [Nat.sub_zero] at hrow
      obtain ⟨v, hk, H⟩ := loadRow_ok hr rfl
      refine ⟨v, [b], .none, hk, fun _ _ => rfl, fun h2 hs => OpSem.value fun E a W hh hv => ?_⟩
      have he : h2[b]? = h[b]? := hs b (by simp)
      obtain ⟨h1, h3⟩ := H h2 he E W hh
      have h0 := hv x (by simp [ho, Op.operands])
      rw [hx] at h0
      obtain ⟨e1, e2, _⟩ := hh.ok b _ (he.trans hrow)
      rw [e1, e2, Nat.zero_add] at h3
      refine ⟨conc E v, VR.of h1, ?_⟩
      simp only [execOp, ho, (h0.val (by simp)).1, conc, Instr.loadAt, Instr.sureAddr, Sem.run_bind, Sem.run_pure, Result.andThen_ok, h3]
    · cases hr
  · cases hr

theorem aLoad_run {t : TypeId} {v0 : V} {r : R} (hr : aLoad P t v0 h K = some r) : ∃ v rd eff, K v rd eff = some r ∧ ∀ (E : Env) (W : World), Holds E h W → ∀ x, VR E h.length v0 x →
    inS h.length v = true ∧ ∃ ad, x = .pointer (some ad) ∧ (loadVar t ad).run P W = .ok (conc E v) W := by
  unfold aLoad at hr
  split at hr
  · rename_i b off
    obtain ⟨v, hk, H⟩ := loadRow_ok hr rfl
    refine ⟨v, [b], .none, hk, fun E W hh x hx => ?_⟩
    obtain ⟨h1, h3⟩ := H h rfl E W hh
    exact ⟨h1, _, by rw [(hx.val (by simp)).1, conc], h3⟩
  · rename_i g off
    split at hr
    · rename_i b hb
      obtain ⟨row, _, hrow⟩ := findG_ok hb
      rw [Nat.sub_zero] at hrow
      obtain ⟨v, hk, H⟩ := loadRow_ok hr rfl
      refine ⟨v, [b], .none, hk, fun E W hh x hx => ?_⟩
      obtain ⟨h1, h3⟩ := H h rfl E W hh
      obtain ⟨e1, e2, _⟩ := hh.ok b _ hrow
      rw [e1, e2, Nat.zero_add] at h3
      exact ⟨h1, _, by rw [(hx.val (by simp)).1, conc], h3⟩
    · cases hr
  · cases hr

/-! ### writing -/
def setVs : List V → Nat → List V → Option (List V)
  | l, 0, [] => some l
  | _ :: _, 0, _ :: _ | _ :: _, _ + 1, _ | [], _, _ => none
def spliceV : List V → Nat → List V → Option (List V)
  | l, 0, [] => some l
  | [], _, _ => none
  | _ :: r, 0, c :: cs => match spliceV r 0 cs with
    | some m => some (c :: m)
    | none => none
  | v :: r, i + 1, cs => match spliceV r i cs with
    | some m => some (v :: m)
    | none => none
theorem spliceV_ok : ∀ {l : List V} {i : Nat} {cs m : List V}, spliceV l i cs = some m → i + cs.length ≤ l.length ∧ m = splice l i cs
  | l, 0, [], m, hs => by
    simp [spliceV] at hs
    subst hs
    simp [splice_nil]
  | [], 0, _ :: _, m, hs => by simp [spliceV] at hs
  | [], i + 1, _, m, hs => by simp [spliceV] at hs
  | v :: r, 0, c :: cs, m, hs => by
    simp only [spliceV] at hs
    split at hs
    · rename_i m' hm
      injection hs with hs
      obtain ⟨h1, h2⟩ := spliceV_ok hm
      refine ⟨by simp; omega, ?_⟩
      rw [← hs, h2]
      simp [splice]
    · cases hs
  | v :: r, i + 1, cs, m, hs => by
    simp only [spliceV] at hs
    split at hs
    · rename_i m' hm
      injection hs with hs
      obtain ⟨h1, h2⟩ := spliceV_ok hm
      refine ⟨by simp; omega, ?_⟩
      rw [← hs, h2]
      simp [splice, show i + 1 + cs.length = (i + cs.length) + 1 by omega]
    · cases hs
def rowSet (row : Row) (off : Nat) (cs : List V) (K : Row → Option R) : Option R := match row with
  | .vs l => match spliceV l off cs with
    | some l' => K (.vs l')
    | none => none
  | .ints k l => match cs with
    | [.int k' n] => match decide (k = k') with
      | true => cond (decide (off < l.length)) (K (.ints k (l.set off n))) none
      | false => none
    | cs => match allInt k cs with
      | some ns => cond (decide (off + ns.length ≤ l.length)) (K (.ints k (splice l off ns))) none
      | none => none
  | .strs l => match cs with
    | [.str s] => cond (decide (off < l.length)) (K (.strs (l.set off s))) none
    | cs => match allStr cs with
      | some ss => cond (decide (off + ss.length ≤ l.length)) (K (.strs (splice l off ss))) none
      | none => none
theorem rowSet_ok {row : Row} {off : Nat} {cs : List V} {K : Row → Option R} {r : R} (hr : rowSet row off cs K = some r) :
    ∃ row', K row' = some r ∧ off + cs.length ≤ row.len ∧ row'.toVs = splice row.toVs off cs := by
  unfold rowSet at hr
  split at hr
  · split at hr
    · rename_i l l' hl
      obtain ⟨h1, h2⟩ := spliceV_ok hl
      exact ⟨_, hr, h1, h2⟩
    · cases hr
  · rename_i k l
    split at hr
    · rename_i k' n
      split at hr
      · rename_i hk
        simp only [decide_eq_true_eq] at hk
        subst hk
        cases hb : decide (off < l.length) with
        | false => rw [hb, cond_false] at hr; cases hr
        | true =>
          rw [hb] at hr
          simp only [decide_eq_true_eq] at hb
          refine ⟨_, hr, by simp [Row.len]; omega, ?_⟩
          rw [splice_one _ _ _ (by simpa [Row.toVs] using hb)]
          simp [Row.toVs]
      · cases hr
    · split at hr
      · rename_i ns hns
        cases hb : decide (off + ns.length ≤ l.length) with
        | false => rw [hb, cond_false] at hr; cases hr
        | true =>
          rw [hb] at hr
          simp only [decide_eq_true_eq] at hb
          have e := allInt_ok hns
          refine ⟨_, hr, by rw [← e]; simp only [Row.len, List.length_map]; omega, ?_⟩
          rw [← e]
          simp only [Row.toVs]
          rw [splice_map]
      · cases hr
  · rename_i l
    split at hr
    · rename_i s
      cases hb : decide (off < l.length) with
      | false => rw [hb, cond_false] at hr; cases hr
      | true =>
        rw [hb] at hr
        simp only [decide_eq_true_eq] at hb
        refine ⟨_, hr, by simp [Row.len]; omega, ?_⟩
        rw [splice_one _ _ _ (by simpa [Row.toVs] using hb)]
        simp [Row.toVs]
    · split at hr
      · rename_i ss hss
        cases hb : decide (off + ss.length ≤ l.length) with
        | false => rw [hb, cond_false] at hr; cases hr
        | true =>
          rw [hb] at hr
          simp only [decide_eq_true_eq] at hb
          have e := allStr_ok hss
          refine ⟨_, hr, by rw [← e]; simp only [Row.len, List.length_map]; omega, ?_⟩
          rw [← e]
          simp only [Row.toVs]
          rw [splice_map]
      · cases hr

/-- Writing into a block of ours: the memory behind it. -/
theorem Holds.store {E : Env} {h : List Blk} {W : World} (hh : Holds E h W) {b : Nat} {blk blk' : Blk} (hb : h[b]? = some blk) {row' : Row} {off : Nat} {cs : List V}
    (hblk : (∃ ty row, blk = .own ty row ∧ blk' = .own ty row') ∨ (∃ nn ty sz row, blk = .grow nn ty sz row ∧ blk' = .grow nn ty sz row')) (hcs : cs ≠ [])
    (hfit : off + cs.length ≤ blk.row.len) (hrow : row'.toVs = splice blk.row.toVs off cs) (hin : inSs h.length cs = true) (hone : ∀ u ∈ cs, oneV u = true) :
    ∃ W', (storeCells ⟨E.blk b, E.delta b + off, none⟩ (concs E cs)).run P W = .ok () W' ∧ Holds E (setB h b blk') W' ∧ Trans E h W E (setB h b blk') W' := by
  have hk := hh.ok b blk hb
  have hlen : row'.len = blk.row.len := by
    rw [Row.len_eq, hrow, splice_length _ _ _ (by rw [← Row.len_eq]; exact hfit), ← Row.len_eq]
  have hin' : ∀ {row : Row}, inSs h.length row.toVs = true → row = blk.row → inSs h.length row'.toVs = true := fun {row} hs he => by
    rw [hrow, ← he]
    simp only [inSs_eq, List.all_eq_true] at *
    intro x hx
    simp only [splice, List.mem_append] at hx
    rcases hx with (hx | hx) | hx
    · exact hs x (List.mem_of_mem_take hx)
    · exact hin x hx
    · exact hs x (List.mem_of_mem_drop hx)
  have hone' : ∀ v ∈ concs E cs, v.oneCell' = true := fun v hv => by
    rw [concs_eq] at hv
    obtain ⟨u, hu, rfl⟩ := List.mem_map.1 hv
    exact oneV_conc (hone u hu)
  rcases hblk with ⟨ty, row, rfl, rfl⟩ | ⟨nn, ty, sz, row, rfl, rfl⟩
  · obtain ⟨hd, hs, fz, hfz, hc⟩ := hk
    simp only [Blk.row] at hfit hrow hlen
    have hl : (concs E row.toVs).length = row.len := by rw [concs_eq, List.length_map, Row.len_eq]
    have hcl : (concs E cs).length = cs.length := by rw [concs_eq, List.length_map]
    have hst := run_storeCells_any (P := P) (E.blk b) off ty fz (concs E cs) 0 (concs E row.toVs) W hc (fun k hk => hfz k (by rw [hcl] at hk; omega)) (by rw [hcl, hl]; omega) hone'
    rw [Nat.add_zero] at hst
    have hsp : splice (concs E row.toVs) off (concs E cs) = concs E row'.toVs := by
      rw [concs_eq, concs_eq, ← splice_map, ← hrow, concs_eq]
    rw [hsp] at hst
    obtain ⟨h1, h2⟩ := hh.write (blk' := .own ty row') hb rfl rfl rfl rfl (o := .cells (concs E row'.toVs).toArray ty fz)
      ⟨hd, hin' hs rfl, fz, fun k hk => hfz k (by omega), putObj_self (Array.getElem?_eq_some_iff.1 hc).1⟩
    exact ⟨_, by rw [hd, Nat.zero_add]; exact hst, h1, h2⟩
  · obtain ⟨hd, hs, hz, hle, hcap, hnil, hc⟩ := hk
    simp only [Blk.row] at hfit hrow hlen
    have hpos : 0 < row.len := by
      cases cs with
      | nil => exact absurd rfl hcs
      | cons u r => simp at hfit; omega
    have hn : E.isnil b = false := by
      cases hx : E.isnil b with
      | false => rfl
      | true => have := (hnil hx).1; omega
    obtain ⟨fz, spare, hfz, hsz, hc⟩ := hc hn
    have hl : (concs E row.toVs).length = row.len := by rw [concs_eq, List.length_map, Row.len_eq]
    have hcl : (concs E cs).length = cs.length := by rw [concs_eq, List.length_map]
    have hst := run_storeCells_any (P := P) (E.blk b) off ty fz (concs E cs) 0 (concs E row.toVs ++ spare) W hc (fun k hk => hfz k (by rw [hcl] at hk; omega)) (by rw [hcl, List.length_append, hl]; omega) hone'
    rw [Nat.add_zero] at hst
    have hsp : splice (concs E row.toVs ++ spare) off (concs E cs) = concs E row'.toVs ++ spare := by
      rw [splice_append _ _ _ _ (by rw [hl, hcl]; exact hfit), concs_eq, concs_eq, ← splice_map, ← hrow, concs_eq]
    rw [hsp] at hst
    obtain ⟨h1, h2⟩ := hh.write (blk' := .grow nn ty sz row') hb rfl rfl rfl (by simp [liveAt, hn]) (o := .cells (concs E row'.toVs ++ spare).toArray ty fz)
      ⟨hd, hin' hs rfl, hz, by rw [hlen]; exact hle, hcap, fun h => (by rw [hn] at h; cases h), fun _ => ⟨fz, spare, fun k hk => hfz k (by omega), by omega, putObj_self (Array.getElem?_eq_some_iff.1 hc).1⟩⟩
    exact ⟨_, by rw [hd, Nat.zero_add]; exact hst, h1, h2⟩

def aStore (P : Program) (t : TypeId) (a x : V) (h : List Blk) (K : KOp R) : Option R := match a with
  | .ptr b off => match wholeV x, szT P t with
    | true, some n => match Nat.beq n (cellsV x).length && Nat.ble 1 n with
      | true => match getB h b with
        | .own ty row => rowSet row off (cellsV x) (fun row' => K undefV [] (.wr b (.own ty row')))
        | .grow nn ty sz row => rowSet row off (cellsV x) (fun row' => K undefV [] (.wr b (.grow nn ty sz row')))
        | _ => none
      | false => none
    | _, _ => none
  | _ => none
theorem VR.undef {E : Env} {n : Nat} : VR E n undefV undef := .inr ⟨by simp [undefV, inS, inSs], by simp [undefV, conc, concs, Go.undef]⟩
theorem ok_store {t : TypeId} {x y : Operand} (ho : o.op = .store t x y) : AopOk P o ev h (aStore P t (ev x) (ev y) h K) K := by
  intro r hr
  unfold aStore at hr
  split at hr
  · rename_i b off hx
    split at hr
    · rename_i n hw hn
      split at hr
      · rename_i hnb
        simp only [Bool.and_eq_true] at hnb
        have hn1 := Nat.eq_of_beq_eq_true hnb.1
        have hn2 := Nat.le_of_ble_eq_true hnb.2
        have main : ∀ {blk blk' : Blk} {row' : Row}, getB h b = blk → ((∃ ty row, blk = .own ty row ∧ blk' = .own ty row') ∨ (∃ nn ty sz row, blk = .grow nn ty sz row ∧ blk' = .grow nn ty sz row')) →
            off + (cellsV (ev y)).length ≤ blk.row.len → row'.toVs = splice blk.row.toVs off (cellsV (ev y)) → OpEff P o ev h undefV [] (.wr b blk') := fun {blk blk' row'} hb hblk hfit hrow => by
          intro h2 hs E a W hh hv next Q hnext
          have hnd : blk ≠ .dead := by rcases hblk with ⟨_, _, rfl, _⟩ | ⟨_, _, _, _, rfl, _⟩ <;> simp
          have hb2 : h2[b]? = some blk := hs.2.trans (getB_some hb hnd)
          have hvx := hv x (by simp [ho, Op.operands])
          have hvy := hv y (by simp [ho, Op.operands])
          rw [hx] at hvx
          have hny : ev y ≠ .top := fun e => by rw [e] at hw; simp [wholeV] at hw
          obtain ⟨ey, iy⟩ := hvy.val hny
          have hcl : (concs E (cellsV (ev y))).length = n := by rw [concs_eq, List.length_map]; exact hn1.symm
          obtain ⟨W', hst, h1, h3⟩ := hh.store (P := P) hb2 hblk (fun e => by rw [e] at hn1; simp at hn1; omega) hfit hrow (cellsV_inS iy) (cellsV_one hw)
          have hrun : (execOp a.eval o).run P W = .ok .skip W' := by
            simp only [execOp, ho, (hvx.val (by simp)).1, conc, Instr.storeAt, Instr.sureAddr, Sem.run_bind, Sem.run_pure, Result.andThen_ok, storeVar, run_szT hn]
            have hsz : (a.eval y).cells.size = n := by rw [ey, ← Array.length_toList, cellsV_conc hw, hcl]
            rw [if_neg (by rw [hsz]; simp)]
            rw [show (a.eval y).cells.toList = concs E (cellsV (ev y)) by rw [ey, cellsV_conc hw]]
            rw [hst]
            rfl
          exact Oper.wpE_skip hrun (hnext undef E W' VR.undef h1 h3)
        split at hr
        · rename_i ty row hb
          obtain ⟨row', hk, hfit, hrow⟩ := rowSet_ok hr
          exact ⟨_, _, _, hk, ⟨fun _ _ => rfl, rfl⟩, main hb (.inl ⟨ty, row, rfl, rfl⟩) hfit hrow⟩
        · rename_i nn ty sz row hb
          obtain ⟨row', hk, hfit, hrow⟩ := rowSet_ok hr
          exact ⟨_, _, _, hk, ⟨fun _ _ => rfl, rfl⟩, main hb (.inr ⟨nn, ty, sz, row, rfl, rfl⟩) hfit hrow⟩
        · cases hr
      · cases hr
    · cases hr
  · cases hr

/-! ### new variables -/
def zeroOf (P : Program) (t : TypeId) : Option Value := match P.info? t with
  | some i => i.zero
  | none => none
theorem run_zeroOf {t : TypeId} {z : Value} (hz : zeroOf P t = some z) (W : World) : (zeroValue t).run P W = .ok z W := by
  unfold zeroOf at hz
  split at hz
  · rename_i i hi; simp [zeroValue, typeInfo, hi, hz]
  · cases hz
def zeroCells (z : Value) : List V := match z with
  | .agg cs => cs.toList.map ofScalar
  | v => [ofScalar v]
theorem zeroCells_eq (E : Env) (z : Value) : concs E (zeroCells z) = z.cells.toList := by
  cases z <;> simp [zeroCells, concs, conc_ofScalar, concs_ofScalar, Value.cells]
theorem zeroCells_inS (n : Nat) (z : Value) : inSs n (zeroCells z) = true := by
  cases z <;> simp [zeroCells, inSs, inS_ofScalar, inSs_ofScalar]
theorem push_semR {ty : TypeId} {row : Row} (hl : ∀ (n : Nat) (E : Env) (a : Act), (∀ x ∈ o.op.operands, VR E n (ev x) (a.eval x)) → inSs n row.toVs = true)
    (hrun : ∀ (n : Nat) (E : Env) (a : Act) (W : World), (∀ x ∈ o.op.operands, VR E n (ev x) (a.eval x)) → (execOp a.eval o).run P W = .ok (.value (.pointer (some ⟨W.heap.size, 0, none⟩))) (W.alloc (.cells (concs E row.toVs).toArray ty))) :
    OpEff P o ev h (.ptr h.length 0) [] (.push h.length (.own ty row)) := by
  intro h2 hs E a W hh hv next Q hnext
  obtain ⟨_, hlen⟩ := hs
  obtain ⟨h1, h3⟩ := hh.allocR ty row (hl _ E a hv)
  refine Oper.wpE_value (hrun _ E a W hv) ?_
  refine hnext _ _ _ (.inr ⟨?_, ?_⟩) h1 h3
  · simp [inS, HEff.app, ← hlen]
  · simp [conc, Env.put, hlen]
theorem push_sem {ty : TypeId} {l : List V} (hl : ∀ (n : Nat) (E : Env) (a : Act), (∀ x ∈ o.op.operands, VR E n (ev x) (a.eval x)) → inSs n l = true)
    (hrun : ∀ (n : Nat) (E : Env) (a : Act) (W : World), (∀ x ∈ o.op.operands, VR E n (ev x) (a.eval x)) → (execOp a.eval o).run P W = .ok (.value (.pointer (some ⟨W.heap.size, 0, none⟩))) (W.alloc (.cells (concs E l).toArray ty))) :
    OpEff P o ev h (.ptr h.length 0) [] (.push h.length (.own ty (.vs l))) := push_semR (row := .vs l) hl hrun
/-- Rows of strings alone are kept as such: their indexes may be unknown. -/
def rowOfVs (l : List V) : Row := match bigInts l with
  | some (k, ns) => .ints k ns
  | none => match l with
    | .str a :: b :: r => match allStr (.str a :: b :: r) with
      | some ss => .strs ss
      | none => .vs l
    | l => .vs l
theorem rowOfVs_vs (l : List V) : (rowOfVs l).toVs = l := by
  unfold rowOfVs
  split
  · rename_i k ns hk; simp only [Row.toVs]; exact bigInts_ok hk
  · split
    · split
      · rename_i ss hs; simp only [Row.toVs]; exact allStr_ok hs
      · rfl
    · rfl
def aAlloc (P : Program) (t : TypeId) (h : List Blk) (K : KOp R) : Option R := match zeroOf P t with
  | some z => K (.ptr h.length 0) [] (.push h.length (.own t (rowOfVs (zeroCells z))))
  | none => none
theorem ok_alloc {t : TypeId} (ho : o.op = .alloc t) : AopOk P o ev h (aAlloc P t h K) K := by
  intro r hr
  unfold aAlloc at hr
  split at hr
  · rename_i z hz
    refine ⟨_, _, _, hr, ⟨fun _ _ => rfl, rfl⟩, push_semR (fun n _ _ _ => by rw [rowOfVs_vs]; exact zeroCells_inS n z) fun n E a W hv => ?_⟩
    rw [rowOfVs_vs]
    simp only [execOp, ho, Instr.alloc, Sem.run_bind, run_zeroOf hz, Result.andThen_ok, newVar, newRow, run_newObj, Sem.run_pure]
    simp [zeroCells_eq]
  · cases hr
def aBox (t : TypeId) (x : V) (h : List Blk) (K : KOp R) : Option R := match wholeV x with
  | true => K (.ptr h.length 0) [] (.push h.length (.own t (.vs (cellsV x))))
  | false => none
theorem ok_box {t : TypeId} {x : Operand} (ho : o.op = .box t x) : AopOk P o ev h (aBox t (ev x) h K) K := by
  intro r hr
  unfold aBox at hr
  split at hr
  · rename_i hw
    have hne : ev x ≠ .top := fun e => by rw [e] at hw; simp [wholeV] at hw
    have key : ∀ (n : Nat) (E : Env) (a : Act), (∀ z ∈ o.op.operands, VR E n (ev z) (a.eval z)) → a.eval x = conc E (ev x) ∧ inS n (ev x) = true := fun n E a hv =>
      (hv x (by simp [ho, Op.operands])).val hne
    refine ⟨_, _, _, hr, ⟨fun _ _ => rfl, rfl⟩, push_sem (fun n E a hv => cellsV_inS (key n E a hv).2) fun n E a W hv => ?_⟩
    obtain ⟨e1, _⟩ := key n E a hv
    have hc : (conc E (ev x)).cells = (concs E (cellsV (ev x))).toArray := by
      apply Array.ext'; simp [cellsV_conc hw]
    simp only [execOp, ho, Instr.box, e1, Sem.run_bind, newVar, newRow, run_newObj, Result.andThen_ok, Sem.run_pure, hc]
    simp
  · cases hr

/-! ### addresses -/
def aNilCheck (x : V) (K : KOp R) : Option R := match x with
  | .ptr _ _ | .glob _ _ | .func _ _ => K x [] .none
  | _ => none
theorem ok_nilCheck {x : Operand} (ho : o.op = .nilCheck x) : AopOk P o ev h (aNilCheck (ev x) K) K := by
  intro r hr
  have key : ∀ (v : V), ev x = v → (∃ b off, v = .ptr b off) ∨ (∃ g off, v = .glob g off) ∨ (∃ f c, v = .func f c) → K v [] .none = some r → ∃ v rd eff, K v rd eff = some r ∧ Same h h rd eff ∧ OpEff P o ev h v rd eff := fun v hx hc hk => by
    refine pureOk hk fun n E a W hv => ?_
    have h0 := hv x (by simp [ho, Op.operands])
    rw [hx] at h0
    refine ⟨a.eval x, h0, ?_⟩
    rcases hc with ⟨b, off, rfl⟩ | ⟨g, off, rfl⟩ | ⟨f, c, rfl⟩ <;> simp [execOp, ho, (h0.val (by simp)).1, conc]
  unfold aNilCheck at hr
  split at hr
  · rename_i b off hx; exact key _ hx (.inl ⟨b, off, rfl⟩) (by rw [← hx]; exact hr)
  · rename_i g off hx; exact key _ hx (.inr (.inl ⟨g, off, rfl⟩)) (by rw [← hx]; exact hr)
  · rename_i f c hx; exact key _ hx (.inr (.inr ⟨f, c, rfl⟩)) (by rw [← hx]; exact hr)
  · cases hr

def elemsN (n : Nat) : Nat → Nat
  | 1 => n
  | sz => n / sz
theorem elemsN_eq {n m sz : Nat} (hz : 0 < sz) (h : m * sz = n) : elemsN n sz = m := by
  unfold elemsN
  split
  · omega
  · rw [← h]; exact Nat.mul_div_cancel _ hz
/-- How many elements the block of a slice holds; its elements' size. -/
def sliceRow : Blk → Option (Nat × Row)
  | .rs _ sz row | .grow _ _ sz row => some (sz, row)
  | _ => none
theorem sliceRow_ok {blk : Blk} {sz : Nat} {row : Row} (hs : sliceRow blk = some (sz, row)) {E : Env} {n b : Nat} {W : World} (hk : BlkOk E n W b blk) :
    blk.row = row ∧ 0 < sz ∧ E.len b * sz = row.len ∧ E.len b ≤ E.cap b ∧ (E.isnil b = true → row.len = 0) ∧ blk ≠ .dead := by
  cases blk <;> simp [sliceRow] at hs
  · obtain ⟨rfl, rfl⟩ := hs
    obtain ⟨_, h1, h2, h3, h4, _⟩ := hk
    exact ⟨rfl, h1, h2, h3, fun h => (h4 h).1, by simp⟩
  · obtain ⟨rfl, rfl⟩ := hs
    obtain ⟨_, _, h1, h2, h3, h4, _⟩ := hk
    exact ⟨rfl, h1, h2, h3, fun h => (h4 h).1, by simp⟩

def aIndexAddr (P : Program) (t : TypeId) (x i : V) (h : List Blk) (K : KOp R) : Option R := match i, P.underlying t with
  | .int _ i, some (.array len e) => match szT P e with
    | some sz => match x with
      | .ptr b off => cond (decide (0 ≤ i ∧ i < len)) (K (.ptr b (addS off (mulS i.toNat sz))) [] .none) none
      | .glob g off => cond (decide (0 ≤ i ∧ i < len)) (K (.glob g (addS off (mulS i.toNat sz))) [] .none) none
      | _ => none
    | none => none
  | .int _ i, some (.slice e) => match szT P e with
    | some sz => match x with
      | .gs b => match sliceRow (getB h b) with
        | some (sz', row) => match Nat.beq sz' sz with
          | true => cond (decide (0 ≤ i ∧ i < Int.ofNat (elemsN row.len sz))) (K (.ptr b (mulS i.toNat sz)) [b] .none) none
          | false => none
        | none => none
      | .view b l sz2 len => match sliceRow (getB h b) with
        | some (sz', row) => match Nat.beq sz' sz && Nat.beq sz2 sz with
          | true => cond (decide (0 ≤ i ∧ i < Int.ofNat len ∧ l + len ≤ elemsN row.len sz)) (K (.ptr b (mulS (addS l i.toNat) sz)) [b] .none) none
          | false => none
        | none => none
      | _ => none
    | none => none
  | _, _ => none
theorem ok_indexAddr {t : TypeId} {x i : Operand} (ho : o.op = .indexAddr t x i) : AopOk P o ev h (aIndexAddr P t (ev x) (ev i) h K) K := by
  intro r hr
  have hvi : ∀ {n : Nat} {E : Env} {a : Act} {k : IntKind} {m : Int}, (∀ z ∈ o.op.operands, VR E n (ev z) (a.eval z)) → ev i = .int k m → a.eval i = .int k m := fun hv hi => by
    have h0 := hv i (by simp [ho, Op.operands]); rw [hi] at h0; exact h0.int
  have hvx : ∀ {n : Nat} {E : Env} {a : Act}, (∀ z ∈ o.op.operands, VR E n (ev z) (a.eval z)) → VR E n (ev x) (a.eval x) := fun hv => hv x (by simp [ho, Op.operands])
  unfold aIndexAddr at hr
  split at hr
  · rename_i k m len e hi hu
    split at hr
    · rename_i sz hsz
      split at hr
      · rename_i b off hx
        cases hb : decide (0 ≤ m ∧ m < len) with
        | false => rw [hb, cond_false] at hr; cases hr
        | true =>
          rw [hb] at hr
          simp only [decide_eq_true_eq] at hb
          refine pureOk hr fun n E a W hv => ?_
          have h0 := hvx hv
          rw [hx] at h0
          obtain ⟨e1, e2⟩ := h0.val (by simp)
          refine ⟨conc E (.ptr b (addS off (mulS m.toNat sz))), VR.of (by simpa [inS] using e2), ?_⟩
          simp only [execOp, ho, hvi hv hi, e1, conc, Instr.indexAt, asIntOf, Sem.run_bind, Sem.run_pure, Result.andThen_ok, run_underlying hu, Instr.sureAddr]
          rw [if_pos hb]
          simp only [Sem.run_bind, run_szT hsz, Result.andThen_ok, Sem.run_pure, Addr_add_lit, addS_eq, mulS_eq, Nat.add_assoc]
      · rename_i g off hx
        cases hb : decide (0 ≤ m ∧ m < len) with
        | false => rw [hb, cond_false] at hr; cases hr
        | true =>
          rw [hb] at hr
          simp only [decide_eq_true_eq] at hb
          refine pureOk hr fun n E a W hv => ?_
          have h0 := hvx hv
          rw [hx] at h0
          obtain ⟨e1, e2⟩ := h0.val (by simp)
          refine ⟨conc E (.glob g (addS off (mulS m.toNat sz))), VR.of (by simp [inS]), ?_⟩
          simp only [execOp, ho, hvi hv hi, e1, conc, Instr.indexAt, asIntOf, Sem.run_bind, Sem.run_pure, Result.andThen_ok, run_underlying hu, Instr.sureAddr]
          rw [if_pos hb]
          simp only [Sem.run_bind, run_szT hsz, Result.andThen_ok, Sem.run_pure, Addr_add_lit, addS_eq, mulS_eq]
      · cases hr
    · cases hr
  · rename_i k m e hi hu
    split at hr
    · rename_i sz hsz
      split at hr
      · rename_i b hx
        split at hr
        · rename_i sz' row hsr
          split at hr
          · rename_i hsz2
            have := Nat.eq_of_beq_eq_true hsz2
            subst this
            cases hb : decide (0 ≤ m ∧ m < Int.ofNat (elemsN row.len sz')) with
            | false => rw [hb, cond_false] at hr; cases hr
            | true =>
              rw [hb] at hr
              simp only [decide_eq_true_eq] at hb
              refine ⟨_, [b], .none, hr, fun _ _ => rfl, fun h2 hs => OpSem.value fun E a W hh hv => ?_⟩
              have hne : getB h b ≠ .dead := fun e => by rw [e] at hsr; simp [sliceRow] at hsr
              have hb2 : h2[b]? = some (getB h b) := (hs b (by simp)).trans (getB_some rfl hne)
              obtain ⟨_, hz, hl, hcap, hnil, _⟩ := sliceRow_ok hsr (hh.ok b _ hb2)
              rw [elemsN_eq hz hl] at hb
              have hn : E.isnil b = false := by
                cases hxx : E.isnil b with
                | false => rfl
                | true =>
                  have h1 := hnil hxx
                  rw [h1] at hl
                  have : E.len b = 0 := by
                    rcases Nat.mul_eq_zero.1 hl with h | h
                    · exact h
                    · omega
                  rw [this] at hb; simp at hb; omega
              have h0 := hvx hv
              rw [hx] at h0
              obtain ⟨e1, e2⟩ := h0.val (by simp)
              refine ⟨conc E (.ptr b (mulS m.toNat sz')), VR.of (by simpa [inS] using e2), ?_⟩
              simp only [execOp, ho, hvi hv hi, e1, conc, hn, cond_false, Instr.indexAt, asIntOf, Sem.run_bind, Sem.run_pure, Result.andThen_ok, run_underlying hu]
              rw [if_pos (by simpa using hb)]
              simp only [Sem.run_bind, run_szT hsz, Result.andThen_ok, Sem.run_pure, Addr_add_lit, mulS_eq]
          · cases hr
        · cases hr
      · rename_i b l sz2 len hx
        split at hr
        · rename_i sz' row hsr
          split at hr
          · rename_i hsz2
            simp only [Bool.and_eq_true] at hsz2
            have q1 := Nat.eq_of_beq_eq_true hsz2.1
            have q2 := Nat.eq_of_beq_eq_true hsz2.2
            subst q1
            subst q2
            cases hb : decide (0 ≤ m ∧ m < Int.ofNat len ∧ l + len ≤ elemsN row.len sz2) with
            | false => rw [hb, cond_false] at hr; cases hr
            | true =>
              rw [hb] at hr
              simp only [decide_eq_true_eq] at hb
              refine ⟨_, [b], .none, hr, fun _ _ => rfl, fun h2 hs => OpSem.value fun E a W hh hv => ?_⟩
              have hne : getB h b ≠ .dead := fun e => by rw [e] at hsr; simp [sliceRow] at hsr
              have hb2 : h2[b]? = some (getB h b) := (hs b (by simp)).trans (getB_some rfl hne)
              obtain ⟨_, hz, hl, hcap, hnil, _⟩ := sliceRow_ok hsr (hh.ok b _ hb2)
              rw [elemsN_eq hz hl] at hb
              have hpos : 0 < len := by
                have := hb.1; have := hb.2.1
                simp at this; omega
              have hn : E.isnil b = false := by
                cases hxx : E.isnil b with
                | false => rfl
                | true =>
                  have h1 := hnil hxx
                  rw [h1] at hl
                  have : E.len b = 0 := by
                    rcases Nat.mul_eq_zero.1 hl with h | h
                    · exact h
                    · omega
                  omega
              have h0 := hvx hv
              rw [hx] at h0
              obtain ⟨e1, e2⟩ := h0.val (by simp)
              refine ⟨conc E (.ptr b (mulS (addS l m.toNat) sz2)), VR.of (by simpa [inS] using e2), ?_⟩
              have hcl : ¬ E.cap b = l := by omega
              simp only [execOp, ho, hvi hv hi, e1, conc, hn, cond_false, if_neg hcl, Instr.indexAt, asIntOf, Sem.run_bind, Sem.run_pure, Result.andThen_ok, run_underlying hu]
              rw [if_pos ⟨hb.1, by simpa using hb.2.1⟩]
              simp only [Sem.run_bind, run_szT hsz, Result.andThen_ok, Sem.run_pure, Addr_add_lit, mulS_eq, addS_eq]
              congr 4
              rw [Nat.add_mul, Nat.add_assoc]
          · cases hr
        · cases hr
      · cases hr
    · cases hr
  · cases hr

def aFieldAddr (P : Program) (t : TypeId) (x : V) (f : Nat) (K : KOp R) : Option R := match P.underlying t with
  | some (.struct fs) => match fs[f]? with
    | some fd => match szT P fd.type with
      | some (_ + 1) => match x with
        | .ptr b off => K (.ptr b (addS off fd.offset)) [] .none
        | .glob g off => K (.glob g (addS off fd.offset)) [] .none
        | _ => none
      | _ => none
    | none => none
  | _ => none
theorem ok_fieldAddr {t : TypeId} {x : Operand} {f : Nat} (ho : o.op = .fieldAddr t x f) : AopOk P o ev h (aFieldAddr P t (ev x) f K) K := by
  intro r hr
  unfold aFieldAddr at hr
  split at hr
  · rename_i fs hu
    split at hr
    · rename_i fd hf
      split at hr
      · rename_i n hsz
        split at hr
        · rename_i b off hx
          refine pureOk hr fun n' E a W hv => ?_
          have h0 := hv x (by simp [ho, Op.operands])
          rw [hx] at h0
          obtain ⟨e1, e2⟩ := h0.val (by simp)
          refine ⟨conc E (.ptr b (addS off fd.offset)), VR.of (by simpa [inS] using e2), ?_⟩
          simp only [execOp, ho, e1, conc, Instr.fieldAt, Sem.run_bind, run_underlying hu, Result.andThen_ok, hf, Instr.sureAddr, Sem.run_pure, fieldPlace, run_szT hsz]
          rw [if_neg (by omega)]
          simp only [Sem.run_pure, Result.andThen_ok, Addr_add_lit, addS_eq, Nat.add_assoc]
        · rename_i g off hx
          refine pureOk hr fun n' E a W hv => ?_
          have h0 := hv x (by simp [ho, Op.operands])
          rw [hx] at h0
          obtain ⟨e1, e2⟩ := h0.val (by simp)
          refine ⟨conc E (.glob g (addS off fd.offset)), VR.of (by simp [inS]), ?_⟩
          simp only [execOp, ho, e1, conc, Instr.fieldAt, Sem.run_bind, run_underlying hu, Result.andThen_ok, hf, Instr.sureAddr, Sem.run_pure, fieldPlace, run_szT hsz]
          rw [if_neg (by omega)]
          simp only [Sem.run_pure, Result.andThen_ok, Addr_add_lit, addS_eq]
        · cases hr
      · cases hr
    · cases hr
  · cases hr

end
end Go.Eng
