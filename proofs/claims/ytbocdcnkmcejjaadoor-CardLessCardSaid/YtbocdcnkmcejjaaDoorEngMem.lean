/- ENGINE, PART 2: memory: what reading, writing and making a block do to an abstract heap. -/
import Derived.Test.YtbocdcnkmcejjaaDoorEngCore
import Derived.Laws.Cells
namespace Go.Eng
open Go

theorem Addr_add_lit (b o n : Nat) : (⟨b, o, none⟩ : Addr).add n = ⟨b, o + n, none⟩ := by
  unfold Addr.add; split <;> simp_all

def oneV : V → Bool
  | .flat v => v.oneCell'
  | .agg _ | .tuple _ | .top => false
  | _ => true
theorem oneV_conc {E : Env} {v : V} (h : oneV v = true) : (conc E v).oneCell' = true := by
  cases v <;> simp_all [oneV, conc, Value.oneCell']
  case gs b => cases E.isnil b <;> rfl
  case view b l sz len => cases E.isnil b <;> rfl

/-- The cells of a value. -/
def cellsV : V → List V
  | .agg l => l
  | v => [v]
/-- A value whose cells are known. -/
def wholeV : V → Bool
  | .flat v => v.oneCell'
  | .agg l => l.all oneV
  | .tuple _ | .top => false
  | _ => true
theorem cellsV_conc {E : Env} {v : V} (h : wholeV v = true) : (conc E v).cells.toList = concs E (cellsV v) := by
  cases v <;> simp_all [wholeV, conc, cellsV, concs, Value.cells]
  case gs b => cases E.isnil b <;> rfl
  case view b l sz len => cases E.isnil b <;> rfl
  case flat v => cases v <;> simp_all [Value.oneCell']
theorem cellsV_one {v : V} (h : wholeV v = true) : ∀ u ∈ cellsV v, oneV u = true := by
  cases v <;> simp_all [wholeV, cellsV, oneV]
theorem cellsV_inS {n : Nat} {v : V} (h : inS n v = true) : inSs n (cellsV v) = true := by
  cases v <;> simp_all [inS, cellsV, inSs]

def setB (h : List Blk) (b : Nat) (blk : Blk) : List Blk := match h, b with
  | [], _ => []
  | _ :: r, 0 => blk :: r
  | x :: r, n + 1 => x :: setB r n blk
theorem setB_eq (h : List Blk) (b : Nat) (blk : Blk) : setB h b blk = h.set b blk := by
  induction h generalizing b with
  | nil => rfl
  | cons x r ih => cases b <;> simp [setB, ih]
theorem setB_len (h : List Blk) (b : Nat) (blk : Blk) : (setB h b blk).length = h.length := by rw [setB_eq]; simp
def getB (h : List Blk) (b : Nat) : Blk := match h, b with
  | [], _ => .dead
  | x :: _, 0 => x
  | _ :: r, n + 1 => getB r n
theorem getB_eq (h : List Blk) (b : Nat) : getB h b = (h[b]?).getD .dead := by
  induction h generalizing b with
  | nil => rfl
  | cons x r ih => cases b <;> simp [getB, ih]
theorem getB_some {h : List Blk} {b : Nat} {blk : Blk} (he : getB h b = blk) (hn : blk ≠ .dead) : h[b]? = some blk := by
  rw [getB_eq] at he
  cases hb : h[b]? with
  | none => rw [hb] at he; exact absurd he.symm hn
  | some x => rw [hb] at he; simp at he; rw [he]

/-- A cell of a known block. -/
theorem Holds.cell {E : Env} {h : List Blk} {W : World} (hh : Holds E h W) {b : Nat} {blk : Blk} (hb : h[b]? = some blk) {i : Nat} {v : V} (hv : blk.row.toVs[i]? = some v) :
    W.cell? ⟨E.blk b, E.delta b + i, none⟩ = some (conc E v) ∧ inS h.length v = true := by
  have hk := hh.ok b blk hb
  have sc : ∀ {l : List V}, inSs h.length l = true → l[i]? = some v → inS h.length v = true := fun hs hi => by
    rw [inSs_eq, List.all_eq_true] at hs
    exact hs v (List.mem_of_getElem? hi)
  cases blk with
  | dead => simp [Blk.row, Row.toVs] at hv
  | defs => simp [Blk.row, Row.toVs] at hv
  | loopB st me tmps ps assign body d => simp [Blk.row, Row.toVs] at hv
  | ro row => exact ⟨hk.2 i v hv, sc hk.1 hv⟩
  | glob g row => exact ⟨hk.2.2.2 i v hv, sc hk.2.2.1 hv⟩
  | rs nn sz row =>
    obtain ⟨hs, _, _, _, hnil, hc⟩ := hk
    refine ⟨?_, sc hs hv⟩
    have hlt : i < row.toVs.length := by
      rcases Nat.lt_or_ge i row.toVs.length with h' | h'
      · exact h'
      · simp only [Blk.row] at hv; rw [List.getElem?_eq_none h'] at hv; cases hv
    have hn : E.isnil b = false := by
      cases hx : E.isnil b with
      | false => rfl
      | true => have := (hnil hx).1; rw [Row.len_eq] at this; omega
    exact hc hn i v hv
  | own ty row =>
    obtain ⟨hd, hs, fz, _, hc⟩ := hk
    refine ⟨?_, sc hs hv⟩
    simp only [Blk.row] at hv
    simp only [World.cell?, hc, hd, Nat.zero_add, concs_eq]
    simp [hv]
  | grow nn ty sz row =>
    obtain ⟨hd, hs, _, hl, hle, hnil, hc⟩ := hk
    refine ⟨?_, sc hs hv⟩
    simp only [Blk.row] at hv
    have hlt : i < row.toVs.length := by
      rcases Nat.lt_or_ge i row.toVs.length with h' | h'
      · exact h'
      · rw [List.getElem?_eq_none h'] at hv; cases hv
    have hn : E.isnil b = false := by
      cases hx : E.isnil b with
      | false => rfl
      | true => have := (hnil hx).1; rw [Row.len_eq] at this; omega
    obtain ⟨fz, spare, _, _, hc⟩ := hc hn
    simp only [World.cell?, hc, hd, Nat.zero_add, concs_eq]
    simp only [Option.isSome_none, Bool.false_eq_true, if_false, List.getElem?_toArray]
    rw [List.getElem?_append_left (by simpa using hlt)]
    simp [hv]

def World.putObj (W : World) (g : Nat) (o : Obj) : World := { W with heap := W.heap.setIfInBounds g o }

def splice {α : Type} (l : List α) (i : Nat) (vs : List α) : List α := l.take i ++ vs ++ l.drop (i + vs.length)
theorem splice_length {α : Type} (l : List α) (i : Nat) (vs : List α) (h : i + vs.length ≤ l.length) : (splice l i vs).length = l.length := by
  simp [splice]; omega
theorem splice_map {α β : Type} (f : α → β) (l : List α) (i : Nat) (vs : List α) : (splice l i vs).map f = splice (l.map f) i (vs.map f) := by
  simp [splice]
theorem splice_nil {α : Type} (l : List α) (i : Nat) : splice l i [] = l := by simp [splice]
theorem splice_cons {α : Type} (l : List α) (i : Nat) (v : α) (r : List α) (h : i < l.length) : splice l i (v :: r) = splice (l.set i v) (i + 1) r := by
  simp only [splice, List.length_cons]
  rw [List.take_set, List.take_add_one, List.drop_set_of_lt (by omega)]
  simp only [List.getElem?_eq_getElem h, Option.toList]
  rw [List.set_append_right _ _ (by simp; omega)]
  have : i - (List.take i l).length = 0 := by simp; omega
  rw [this]
  simp only [List.set_cons_zero, List.append_assoc, List.cons_append, List.nil_append]
  rw [show i + (r.length + 1) = i + 1 + r.length by omega]
theorem splice_append {α : Type} (l m : List α) (i : Nat) (vs : List α) (h : i + vs.length ≤ l.length) : splice (l ++ m) i vs = splice l i vs ++ m := by
  simp only [splice]
  rw [List.take_append_of_le_length (by omega), List.drop_append_of_le_length h]
  simp
theorem splice_one {α : Type} (l : List α) (i : Nat) (v : α) (h : i < l.length) : splice l i [v] = l.set i v := by
  rw [splice_cons _ _ _ _ h, splice_nil]

theorem setCell_putObj (W : World) (g o : Nat) (v : Value) {cur : Array Value} {t : TypeId} {fz : Nat × Nat} (hg : W.heap[g]? = some (.cells cur t fz)) :
    W.setCell ⟨g, o, none⟩ v = World.putObj W g (.cells (cur.setIfInBounds o v) t fz) := by
  unfold World.setCell World.putObj
  simp only [Option.isSome_none, Bool.false_eq_true, if_false]
  congr 1
  apply Array.ext'
  apply List.ext_getElem?
  intro i
  simp only [Array.getElem?_toList, Array.getElem?_modify, Array.getElem?_setIfInBounds]
  have hlt : g < W.heap.size := (Array.getElem?_eq_some_iff.1 hg).1
  by_cases hi : g = i
  · subst hi
    have hv : W.heap[g] = .cells cur t fz := (Array.getElem?_eq_some_iff.1 hg).2
    simp [hlt, hv]
  · simp [hi]

theorem putObj_get {W : World} {g k : Nat} {o : Obj} (h : g ≠ k) : (World.putObj W g o).heap[k]? = W.heap[k]? := by
  simp [World.putObj, h]
theorem putObj_self {W : World} {g : Nat} {o : Obj} (h : g < W.heap.size) : (World.putObj W g o).heap[g]? = some o := by
  simp [World.putObj, h]
theorem putObj_putObj (W : World) (g : Nat) (o o' : Obj) : World.putObj (World.putObj W g o) g o' = World.putObj W g o' := by
  unfold World.putObj; simp
@[simp] theorem putObj_size (W : World) (g : Nat) (o : Obj) : (World.putObj W g o).heap.size = W.heap.size := by simp [World.putObj]

theorem run_storeCells_any {P : Program} (g o : Nat) (t : TypeId) (fz : Nat × Nat) : ∀ (vs : List Value) (i : Nat) (cur : List Value) (W : World), W.heap[g]? = some (.cells cur.toArray t fz) → (∀ k, k < o + i + vs.length → ¬ (fz.1 ≤ k ∧ k < fz.2)) →
    o + i + vs.length ≤ cur.length → (∀ v ∈ vs, v.oneCell' = true) →
    (storeCells ⟨g, o, none⟩ vs i).run P W = .ok () (World.putObj W g (.cells (splice cur (o + i) vs).toArray t fz))
  | [], i, cur, W, hg, _, _, _ => by
    simp only [storeCells, splice_nil]
    have : World.putObj W g (.cells cur.toArray t fz) = W := by
      unfold World.putObj
      have hlt : g < W.heap.size := (Array.getElem?_eq_some_iff.1 hg).1
      have he : W.heap.setIfInBounds g (.cells cur.toArray t fz) = W.heap := by
        apply Array.ext'
        apply List.ext_getElem?
        intro k
        simp only [Array.getElem?_toList, Array.getElem?_setIfInBounds]
        by_cases hk : g = k
        · subst hk
          have hv : W.heap[g] = .cells cur.toArray t fz := (Array.getElem?_eq_some_iff.1 hg).2
          simp [hlt, hv]
        · simp [hk]
      rw [he]
    rw [this]; rfl
  | v :: rest, i, cur, W, hg, hf, hl, h1 => by
    have hlt : g < W.heap.size := (Array.getElem?_eq_some_iff.1 hg).1
    simp only [List.length_cons] at hl hf
    have hc : W.cell? ⟨g, o + i, none⟩ = some (cur[o + i]'(by omega)) := by
      simp only [World.cell?, hg]
      simp
    have hfr : W.frozen? ⟨g, o + i, none⟩ = false := by
      simp only [World.frozen?, hg]
      have := hf (o + i) (by omega)
      simpa using this
    have hst : (store ((⟨g, o, none⟩ : Addr).add i) v).run P W = .ok () (W.setCell ⟨g, o + i, none⟩ v) := by
      rw [Addr_add_lit, run_store P W _ v _ (h1 v (by simp)), hc]
      simp [hfr]
    simp only [storeCells, Sem.run_bind, hst, Result.andThen_ok]
    rw [setCell_putObj W g (o + i) v hg]
    have hcur : cur.toArray.setIfInBounds (o + i) v = (cur.set (o + i) v).toArray := by simp
    rw [hcur]
    have ih := run_storeCells_any (P := P) g o t fz rest (i + 1) (cur.set (o + i) v) (World.putObj W g (.cells (cur.set (o + i) v).toArray t fz)) (putObj_self hlt)
      (fun k hk => hf k (by omega)) (by simp; omega) (fun u hu => h1 u (by simp [hu]))
    rw [ih, putObj_putObj, splice_cons _ _ _ _ (by omega), show o + (i + 1) = o + i + 1 by omega]

end Go.Eng
