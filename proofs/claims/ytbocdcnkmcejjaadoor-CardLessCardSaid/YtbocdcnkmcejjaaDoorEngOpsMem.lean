/- ENGINE, PART 5: the operations that read and write memory. -/
import Derived.Test.YtbocdcnkmcejjaaDoorEngOps
namespace Go.Eng
open Go

section
variable {R : Type} {P : Program} {o : Oper} {ev : Operand → V} {h : List Blk} {K : KOp R}

def addS : Nat → Nat → Nat
  | 0, n => n
  | m + 1, n => (m + 1) + n
def mulS (n : Nat) : Nat → Nat
  | 1 => n
  | m => n * m
theorem addS_eq (m n : Nat) : addS m n = m + n := by cases m <;> simp [addS]
theorem mulS_eq (n m : Nat) : mulS n m = n * m := by
  unfold mulS; split <;> simp

/-! ### reading -/
def rowGet (row : Row) (i : Nat) (K : V → Option R) : Option R := match row with
  | .vs l => match getO l i with
    | some v => K v
    | none => none
  | .ints k l => match l[i]? with
    | some n => K (.int k n)
    | none => none
  | .strs l => match l[i]? with
    | some s => K (.str s)
    | none => none
theorem rowGet_ok {row : Row} {i : Nat} {K : V → Option R} {r : R} (hr : rowGet row i K = some r) : ∃ v, row.toVs[i]? = some v ∧ K v = some r := by
  unfold rowGet at hr
  split at hr
  · split at hr
    · rename_i l v hv; rw [getO_eq] at hv; exact ⟨v, hv, hr⟩
    · cases hr
  · split at hr
    · rename_i k l _ n hn; exact ⟨.int k n, by simp [Row.toVs, hn], hr⟩
    · cases hr
  · split at hr
    · rename_i l _ s hs; exact ⟨.str s, by simp [Row.toVs, hs], hr⟩
    · cases hr
def rowTake (row : Row) (i n : Nat) (K : List V → Option R) : Option R := match takeV row.toVs i n with
  | some m => K m
  | none => none
theorem rowTake_ok {row : Row} {i n : Nat} {K : List V → Option R} {r : R} (hr : rowTake row i n K = some r) : ∃ m, i + n ≤ row.toVs.length ∧ m = (row.toVs.drop i).take n ∧ K m = some r := by
  unfold rowTake at hr
  split at hr
  · rename_i m hm
    obtain ⟨h1, h2⟩ := takeV_eq hm
    exact ⟨m, h1, h2, hr⟩
  · cases hr
def loadRow (P : Program) (t : TypeId) (b : Nat) (row : Row) (off : Nat) (K : KOp R) : Option R :=
  match isAggT P t with
  | some false => rowGet row off (fun v => K v [b] .none)
  | some true => match szT P t with
    | some n => rowTake row off n (fun l => K (.agg l) [b] .none)
    | none => none
  | none => none
theorem loadRow_ok {t : TypeId} {b off : Nat} {blk : Blk} {r : R} (hr : loadRow P t b blk.row off K = some r) (hb : getB h b = blk) :
    ∃ v, K v [b] .none = some r ∧ ∀ (h2 : List Blk), h2[b]? = h[b]? → ∀ (E : Env) (W : World), Holds E h2 W → inS h2.length v = true ∧ (loadVar t ⟨E.blk b, E.delta b + off, none⟩).run P W = .ok (conc E v) W := by
  unfold loadRow at hr
  have nd : ∀ {h2 : List Blk} {i : Nat} {v : V}, h2[b]? = h[b]? → blk.row.toVs[i]? = some v → h2[b]? = some blk := fun {h2 i v} he hv => by
    have : blk ≠ .dead := fun e => by rw [e] at hv; simp [Blk.row, Row.toVs] at hv
    rw [he]; exact getB_some hb this
  split at hr
  · rename_i ha
    obtain ⟨v, hv, hk⟩ := rowGet_ok hr
    refine ⟨v, hk, fun h2 he E W hh => ?_⟩
    obtain ⟨h1, h3⟩ := hh.cell (nd he hv) hv
    exact ⟨h3, by simp [loadVar, run_isAggT ha, h1]⟩
  · rename_i ha
    split at hr
    · rename_i n hn
      obtain ⟨m, h1, h2, hk⟩ := rowTake_ok hr
      refine ⟨.agg m, hk, fun h2' he E W hh => ?_⟩
      have hlen : m.length = n := by rw [h2]; simp; omega
      have hg : ∀ j v, m[j]? = some v → blk.row.toVs[off + j]? = some v := fun j v hj => by
        rw [h2, List.getElem?_take] at hj
        split at hj
        · rw [List.getElem?_drop] at hj; exact hj
        · cases hj
      refine ⟨?_, ?_⟩
      · simp only [inS, inSs_eq, List.all_eq_true]
        intro x hx
        obtain ⟨j, hj⟩ := List.getElem?_of_mem hx
        exact (hh.cell (nd he (hg j x hj)) (hg j x hj)).2
      · have hl := run_loadCells_list (P := P) W ⟨E.blk b, E.delta b + off, none⟩ (concs E m) (fun j v hv => by
          rw [concs_eq, List.getElem?_map] at hv
          cases hj : m[j]? with
          | none => rw [hj] at hv; cases hv
          | some u =>
            rw [hj] at hv
            injection hv with hv
            rw [Addr_add_lit, Nat.add_assoc, ← hv]
            exact (hh.cell (nd he (hg j u hj)) (hg j u hj)).1)
        rw [concs_eq, List.length_map, hlen, ← concs_eq] at hl
        simp only [loadVar, Sem.run_bind, run_isAggT ha, Result.andThen_ok, if_true, run_szT hn, hl, Sem.run_pure, conc]
    · cases hr
  · cases hr

def findG : List Blk → Nat → Nat → Option Nat
  | [], _, _ => none
  | .glob g' _ :: r, g, i => cond (Nat.beq g' g) (some i) (findG r g (i + 1))
  | _ :: r, g, i => findG r g (i + 1)
theorem findG_ok : ∀ {h : List Blk} {g i b : Nat}, findG h g i = some b → ∃ row, i ≤ b ∧ h[b - i]? = some (.glob g row)
  | [], _, _, _, hf => by simp [findG] at hf
  | x :: r, g, i, b, hf => by
    have rec_ : findG r g (i + 1) = some b → ∃ row, i ≤ b ∧ (x :: r)[b - i]? = some (.glob g row) := fun hf => by
      obtain ⟨row, h1, h2⟩ := findG_ok hf
      exact ⟨row, by omega, by rw [show b - i = (b - (i + 1)) + 1 by omega]; exact h2⟩
    cases x <;> simp only [findG] at hf <;> try exact rec_ hf
    rename_i g' row
    cases hb : Nat.beq g' g with
    | false => rw [hb] at hf; exact rec_ hf
    | true =>
      rw [hb] at hf
      simp only [cond_true, Option.some.injEq] at hf
      subst hf
      have := Nat.eq_of_beq_eq_true hb
      subst this
      exact ⟨row, Nat.le_refl _, by simp⟩

def aLoad (P : Program) (t : TypeId) (a : V) (h : List Blk) (K : KOp R) : Option R := match a with
  | .ptr b off => loadRow P t b (getB h b).row off K
  | .glob g off => match findG h g 0 with
    | some b => loadRow P t b (getB h b).row off K
    | none => none
  | _ => none
theorem ok_load {t : TypeId} {x : Operand} (ho : o.op = .load t x) : AopOk P o ev h (aLoad P t (ev x) h K) K := by
  intro r hr
  unfold aLoad at hr
  split at hr
  · rename_i b off hx
    obtain ⟨v, hk, H⟩ := loadRow_ok hr rfl
    refine ⟨v, [b], .none, hk, fun _ _ => rfl, fun h2 hs => OpSem.value fun E a W hh hv => ?_⟩
    obtain ⟨h1, h3⟩ := H h2 (hs b (by simp)) E W hh
    have h0 := hv x (by simp [ho, Op.operands])
    rw [hx] at h0
    refine ⟨conc E v, VR.of h1, ?_⟩
    simp only [execOp, ho, (h0.val (by simp)).1, conc, Instr.loadAt, Instr.sureAddr, Sem.run_bind, Sem.run_pure, Result.andThen_ok, h3]
  · rename_i g off hx
    split at hr
    · rename_i b hb
      obtain ⟨row, _, hrow⟩ := findG_ok hb
      rw [Nat.sub_zero] at hrow
      obtain ⟨v, hk, H⟩ := loadRow_ok hr rfl
      refine ⟨v, [b], .none, hk, fun _ _ => rfl, fun h2 hs => OpSem.value fun E a W hh hv => ?_⟩
      have he : h2[b]? = h[b]? := hs b (by simp)
      obtain ⟨h1, h3⟩ := H h2 he E W hh
      have h0 := hv x (by simp [ho, Op.operands])
      rw [hx] at h0
      obtain ⟨e1, e2, _⟩ := hh.ok b _ (he.trans hrow)
      rw [e1, e2, Nat.zero_add] at h3
      refine ⟨conc E v, VR.of h1, ?_⟩
      simp only [execOp, ho, (h0.val (by simp)).1, conc, Instr.loadAt, Instr.sureAddr, Sem.run_bind, Sem.run_pure, Result.andThen_ok, h3]
    · cases hr
  · cases hr

theorem aLoad_run {t : TypeId} {v0 : V} {r : R} (hr : aLoad P t v0 h K = some r) : ∃ v rd eff, K v rd eff = some r ∧ ∀ (E : Env) (W : World), Holds E h W → ∀ x, VR E h.length v0 x →
    inS h.length v = true ∧ ∃ ad, x = .pointer (some ad) ∧ (loadVar t ad).run P W = .ok (conc E v) W := by
  unfold aLoad at hr
  split at hr
  · rename_i b off
    obtain ⟨v, hk, H⟩ := loadRow_ok hr rfl
    refine ⟨v, [b], .none, hk, fun E W hh x hx => ?_⟩
    obtain ⟨h1, h3⟩ := H h rfl E W hh
    exact ⟨h1, _, by rw [(hx.val (by simp)).1, conc], h3⟩
  · rename_i g off
    split at hr
    · rename_i b hb
      obtain ⟨row, _, hrow⟩ := findG_ok hb
      rw [Nat.sub_zero] at hrow
      obtain ⟨v, hk, H⟩ := loadRow_ok hr rfl
      refine ⟨v, [b], .none, hk, fun E W hh x hx => ?_⟩
      obtain ⟨h1, h3⟩ := H h rfl E W hh
      obtain ⟨e1, e2, _⟩ := hh.ok b _ hrow
      rw [e1, e2, Nat.zero_add] at h3
      exact ⟨h1, _, by rw [(hx.val (by simp)).1, conc], h3⟩
    · cases hr
  · cases hr

/-! ### writing -/
def setVs : List V → Nat → List V → Option (List V)
  | l, 0, [] => some l
  | _ :: _, 0, _ :: _ | _ :: _, _ + 1, _ | [], _, _ => none
def spliceV : List V → Nat → List V → Option (List V)
  | l, 0, [] => some l
  | [], _, _ => none
  | _ :: r, 0, c :: cs => match spliceV r 0 cs with
    | some m => some (c :: m)
    | none => none
  | v :: r, i + 1, cs => match spliceV r i cs with
    | some m => some (v :: m)
    | none => none
theorem spliceV_ok : ∀ {l : List V} {i : Nat} {cs m : List V}, spliceV l i cs = some m → i + cs.length ≤ l.length ∧ m = splice l i cs
  | l, 0, [], m, hs => by
    simp [spliceV] at hs
    subst hs
    simp [splice_nil]
  | [], 0, _ :: _, m, hs => by simp [spliceV] at hs
  | [], i + 1, _, m, hs => by simp [spliceV] at hs
  | v :: r, 0, c :: cs, m, hs => by
    simp only [spliceV] at hs
    split at hs
    · rename_i m' hm
      injection hs with hs
      obtain ⟨h1, h2⟩ := spliceV_ok hm
      refine ⟨by simp; omega, ?_⟩
      rw [← hs, h2]
      simp [splice]
    · cases hs
  | v :: r, i + 1, cs, m, hs => by
    simp only [spliceV] at hs
    split at hs
    · rename_i m' hm
      injection hs with hs
      obtain ⟨h1, h2⟩ := spliceV_ok hm
      refine ⟨by simp; omega, ?_⟩
      rw [← hs, h2]
      simp [splice, show i + 1 + cs.length = (i + cs.length) + 1 by omega]
    · cases hs
def rowSet (row : Row) (off : Nat) (cs : List V) (K : Row → Option R) : Option R := match row with
  | .vs l => match spliceV l off cs with
    | some l' => K (.vs l')
    | none => none
  | .ints k l => match cs with
    | [.int k' n] => match decide (k = k') with
      | true => cond (decide (off < l.length)) (K (.ints k (l.set off n))) none
      | false => none
    | _ => none
  | .strs l => match cs with
    | [.str s] => cond (decide (off < l.length)) (K (.strs (l.set off s))) none
    | _ => none
theorem rowSet_ok {row : Row} {off : Nat} {cs : List V} {K : Row → Option R} {r : R} (hr : rowSet row off cs K = some r) :
    ∃ row', K row' = some r ∧ off + cs.length ≤ row.len ∧ row'.toVs = splice row.toVs off cs := by
  unfold rowSet at hr
  split at hr
  · split at hr
    · rename_i l l' hl
      obtain ⟨h1, h2⟩ := spliceV_ok hl
      exact ⟨_, hr, h1, h2⟩
    · cases hr
  · split at hr
    · rename_i k l _ k' n
      split at hr
      · rename_i hk
        simp only [decide_eq_true_eq] at hk
        subst hk
        cases hb : decide (off < l.length) with
        | false => rw [hb, cond_false] at hr; cases hr
        | true =>
          rw [hb] at hr
          simp only [decide_eq_true_eq] at hb
          refine ⟨_, hr, by simp [Row.len]; omega, ?_⟩
          rw [splice_one _ _ _ (by simpa [Row.toVs] using hb)]
          simp [Row.toVs]
      · cases hr
    · cases hr
  · split at hr
    · rename_i l _ s
      cases hb : decide (off < l.length) with
      | false => rw [hb, cond_false] at hr; cases hr
      | true =>
        rw [hb] at hr
        simp only [decide_eq_true_eq] at hb
        refine ⟨_, hr, by simp [Row.len]; omega, ?_⟩
        rw [splice_one _ _ _ (by simpa [Row.toVs] using hb)]
        simp [Row.toVs]
    · cases hr

/-- Writing into a block of ours: the memory behind it. -/
theorem Holds.store {E : Env} {h : List Blk} {W : World} (hh : Holds E h W) {b : Nat} {blk blk' : Blk} (hb : h[b]? = some blk) {row' : Row} {off : Nat} {cs : List V}
    (hblk : (∃ ty row, blk = .own ty row ∧ blk' = .own ty row') ∨ (∃ nn ty sz row, blk = .grow nn ty sz row ∧ blk' = .grow nn ty sz row')) (hcs : cs ≠ [])
    (hfit : off + cs.length ≤ blk.row.len) (hrow : row'.toVs = splice blk.row.toVs off cs) (hin : inSs h.length cs = true) (hone : ∀ u ∈ cs, oneV u = true) :
    ∃ W', (storeCells ⟨E.blk b, E.delta b + off, none⟩ (concs E cs)).run P W = .ok () W' ∧ Holds E (setB h b blk') W' ∧ Trans E h W E (setB h b blk') W' := by
  have hk := hh.ok b blk hb
  have hlen : row'.len = blk.row.len := by
    rw [Row.len_eq, hrow, splice_length _ _ _ (by rw [← Row.len_eq]; exact hfit), ← Row.len_eq]
  have hin' : ∀ {row : Row}, inSs h.length row.toVs = true → row = blk.row → inSs h.length row'.toVs = true := fun {row} hs he => by
    rw [hrow, ← he]
    simp only [inSs_eq, List.all_eq_true] at *
    intro x hx
    simp only [splice, List.mem_append] at hx
    rcases hx with (hx | hx) | hx
    · exact hs x (List.mem_of_mem_take hx)
    · exact hin x hx
    · exact hs x (List.mem_of_mem_drop hx)
  have hone' : ∀ v ∈ concs E cs, v.oneCell' = true := fun v hv => by
    rw [concs_eq] at hv
    obtain ⟨u, hu, rfl⟩ := List.mem_map.1 hv
    exact oneV_conc (hone u hu)
  rcases hblk with ⟨ty, row, rfl, rfl⟩ | ⟨nn, ty, sz, row, rfl, rfl⟩
  · obtain ⟨hd, hs, fz, hfz, hc⟩ := hk
    simp only [Blk.row] at hfit hrow hlen
    have hl : (concs E row.toVs).length = row.len := by rw [concs_eq, List.length_map, Row.len_eq]
    have hcl : (concs E cs).length = cs.length := by rw [concs_eq, List.length_map]
    have hst := run_storeCells_any (P := P) (E.blk b) off ty fz (concs E cs) 0 (concs E row.toVs) W hc (fun k hk => hfz k (by rw [hcl] at hk; omega)) (by rw [hcl, hl]; omega) hone'
    rw [Nat.add_zero] at hst
    have hsp : splice (concs E row.toVs) off (concs E cs) = concs E row'.toVs := by
      rw [concs_eq, concs_eq, ← splice_map, ← hrow, concs_eq]
    rw [hsp] at hst
    obtain ⟨h1, h2⟩ := hh.write (blk' := .own ty row') hb rfl rfl rfl rfl (o := .cells (concs E row'.toVs).toArray ty fz)
      ⟨hd, hin' hs rfl, fz, fun k hk => hfz k (by omega), putObj_self (Array.getElem?_eq_some_iff.1 hc).1⟩
    exact ⟨_, by rw [hd, Nat.zero_add]; exact hst, h1, h2⟩
  · obtain ⟨hd, hs, hz, hle, hcap, hnil, hc⟩ := hk
    simp only [Blk.row] at hfit hrow hlen
    have hpos : 0 < row.len := by
      cases cs with
      | nil => exact absurd rfl hcs
      | cons u r => simp at hfit; omega
    have hn : E.isnil b = false := by
      cases hx : E.isnil b with
      | false => rfl
      | true => have := (hnil hx).1; omega
    obtain ⟨fz, spare, hfz, hsz, hc⟩ := hc hn
    have hl : (concs E row.toVs).length = row.len := by rw [concs_eq, List.length_map, Row.len_eq]
    have hcl : (concs E cs).length = cs.length := by rw [concs_eq, List.length_map]
    have hst := run_storeCells_any (P := P) (E.blk b) off ty fz (concs E cs) 0 (concs E row.toVs ++ spare) W hc (fun k hk => hfz k (by rw [hcl] at hk; omega)) (by rw [hcl, List.length_append, hl]; omega) hone'
    rw [Nat.add_zero] at hst
    have hsp : splice (concs E row.toVs ++ spare) off (concs E cs) = concs E row'.toVs ++ spare := by
      rw [splice_append _ _ _ _ (by rw [hl, hcl]; exact hfit), concs_eq, concs_eq, ← splice_map, ← hrow, concs_eq]
    rw [hsp] at hst
    obtain ⟨h1, h2⟩ := hh.write (blk' := .grow nn ty sz row') hb rfl rfl rfl (by simp [liveAt, hn]) (o := .cells (concs E row'.toVs ++ spare).toArray ty fz)
      ⟨hd, hin' hs rfl, hz, by rw [hlen]; exact hle, hcap, fun h => (by rw [hn] at h; cases h), fun _ => ⟨fz, spare, fun k hk => hfz k (by omega), by omega, putObj_self (Array.getElem?_eq_some_iff.1 hc).1⟩⟩
    exact ⟨_, by rw [hd, Nat.zero_add]; exact hst, h1, h2⟩

def aStore (P : Program) (t : TypeId) (a x : V) (h : List Blk) (K : KOp R) : Option R := match a with
  | .ptr b off => match wholeV x, szT P t with
    | true, some n => match Nat.beq n (cellsV x).length && Nat.ble 1 n with
      | true => match getB h b with
        | .own ty row => rowSet row off (cellsV x) (fun row' => K undefV [] (.wr b (.own ty row')))
        | .grow nn ty sz row => rowSet row off (cellsV x) (fun row' => K undefV [] (.wr b (.grow nn ty sz row')))
        | _ => none
      | false => none
    | _, _ => none
  | _ => none
theorem VR.undef {E : Env} {n : Nat} : VR E n undefV undef := .inr ⟨by simp [undefV, inS, inSs], by simp [undefV, conc, concs, Go.undef]⟩
theorem ok_store {t : TypeId} {x y : Operand} (ho : o.op = .store t x y) : AopOk P o ev h (aStore P t (ev x) (ev y) h K) K := by
  intro r hr
  unfold aStore at hr
  split at hr
  · rename_i b off hx
    split at hr
    · rename_i n hw hn
      split at hr
      · rename_i hnb
        simp only [Bool.and_eq_true] at hnb
        have hn1 := Nat.eq_of_beq_eq_true hnb.1
        have hn2 := Nat.le_of_ble_eq_true hnb.2
        have main : ∀ {blk blk' : Blk} {row' : Row}, getB h b = blk → ((∃ ty row, blk = .own ty row ∧ blk' = .own ty row') ∨ (∃ nn ty sz row, blk = .grow nn ty sz row ∧ blk' = .grow nn ty sz row')) →
            off + (cellsV (ev y)).length ≤ blk.row.len → row'.toVs = splice blk.row.toVs off (cellsV (ev y)) → OpEff P o ev h undefV [] (.wr b blk') := fun {blk blk' row'} hb hblk hfit hrow => by
          intro h2 hs E a W hh hv next Q hnext
          have hnd : blk ≠ .dead := by rcases hblk with ⟨_, _, rfl, _⟩ | ⟨_, _, _, _, rfl, _⟩ <;> simp
          have hb2 : h2[b]? = some blk := hs.2.trans (getB_some hb hnd)
          have hvx := hv x (by simp [ho, Op.operands])
          have hvy := hv y (by simp [ho, Op.operands])
          rw [hx] at hvx
          have hny : ev y ≠ .top := fun e => by rw [e] at hw; simp [wholeV] at hw
          obtain ⟨ey, iy⟩ := hvy.val hny
          have hcl : (concs E (cellsV (ev y))).length = n := by rw [concs_eq, List.length_map]; exact hn1.symm
          obtain ⟨W', hst, h1, h3⟩ := hh.store (P := P) hb2 hblk (fun e => by rw [e] at hn1; simp at hn1; omega) hfit hrow (cellsV_inS iy) (cellsV_one hw)
          have hrun : (execOp a.eval o).run P W = .ok .skip W' := by
            simp only [execOp, ho, (hvx.val (by simp)).1, conc, Instr.storeAt, Instr.sureAddr, Sem.run_bind, Sem.run_pure, Result.andThen_ok, storeVar, run_szT hn]
            have hsz : (a.eval y).cells.size = n := by rw [ey, ← Array.length_toList, cellsV_conc hw, hcl]
            rw [if_neg (by rw [hsz]; simp)]
            rw [show (a.eval y).cells.toList = concs E (cellsV (ev y)) by rw [ey, cellsV_conc hw]]
            rw [hst]
            rfl
          exact Oper.wpE_skip hrun (hnext undef E W' VR.undef h1 h3)
        split at hr
        · rename_i ty row hb
          obtain ⟨row', hk, hfit, hrow⟩ := rowSet_ok hr
          exact ⟨_, _, _, hk, ⟨fun _ _ => rfl, rfl⟩, main hb (.inl ⟨ty, row, rfl, rfl⟩) hfit hrow⟩
        · rename_i nn ty sz row hb
          obtain ⟨row', hk, hfit, hrow⟩ := rowSet_ok hr
          exact ⟨_, _, _, hk, ⟨fun _ _ => rfl, rfl⟩, main hb (.inr ⟨nn, ty, sz, row, rfl, rfl⟩) hfit hrow⟩
        · cases hr
      · cases hr
    · cases hr
  · cases hr

/-! ### new variables -/
def zeroOf (P : Program) (t : TypeId) : Option Value := match P.info? t with
  | some i => i.zero
  | none => none
theorem run_zeroOf {t : TypeId} {z : Value} (hz : zeroOf P t = some z) (W : World) : (zeroValue t).run P W = .ok z W := by
  unfold zeroOf at hz
  split at hz
  · rename_i i hi; simp [zeroValue, typeInfo, hi, hz]
  · cases hz
def zeroCells (z : Value) : List V := match z with
  | .agg cs => cs.toList.map ofScalar
  | v => [ofScalar v]
theorem zeroCells_eq (E : Env) (z : Value) : concs E (zeroCells z) = z.cells.toList := by
  cases z <;> simp [zeroCells, concs, conc_ofScalar, concs_ofScalar, Value.cells]
theorem zeroCells_inS (n : Nat) (z : Value) : inSs n (zeroCells z) = true := by
  cases z <;> simp [zeroCells, inSs, inS_ofScalar, inSs_ofScalar]
theorem push_sem {ty : TypeId} {l : List V} (hl : ∀ (n : Nat) (E : Env) (a : Act), (∀ x ∈ o.op.operands, VR E n (ev x) (a.eval x)) → inSs n l = true)
    (hrun : ∀ (n : Nat) (E : Env) (a : Act) (W : World), (∀ x ∈ o.op.operands, VR E n (ev x) (a.eval x)) → (execOp a.eval o).run P W = .ok (.value (.pointer (some ⟨W.heap.size, 0, none⟩))) (W.alloc (.cells (concs E l).toArray ty))) :
    OpEff P o ev h (.ptr h.length 0) [] (.push h.length (.own ty (.vs l))) := by
  intro h2 hs E a W hh hv next Q hnext
  obtain ⟨_, hlen⟩ := hs
  obtain ⟨h1, h3⟩ := hh.alloc ty l (hl _ E a hv)
  refine Oper.wpE_value (hrun _ E a W hv) ?_
  refine hnext _ _ _ (.inr ⟨?_, ?_⟩) h1 h3
  · simp [inS, HEff.app, ← hlen]
  · simp [conc, Env.put, hlen]
def aAlloc (P : Program) (t : TypeId) (h : List Blk) (K : KOp R) : Option R := match zeroOf P t with
  | some z => K (.ptr h.length 0) [] (.push h.length (.own t (.vs (zeroCells z))))
  | none => none
theorem ok_alloc {t : TypeId} (ho : o.op = .alloc t) : AopOk P o ev h (aAlloc P t h K) K := by
  intro r hr
  unfold aAlloc at hr
  split at hr
  · rename_i z hz
    refine ⟨_, _, _, hr, ⟨fun _ _ => rfl, rfl⟩, push_sem (fun n _ _ _ => zeroCells_inS n z) fun n E a W hv => ?_⟩
    simp only [execOp, ho, Instr.alloc, Sem.run_bind, run_zeroOf hz, Result.andThen_ok, newVar, newRow, run_newObj, Sem.run_pure]
    simp [zeroCells_eq]
  · cases hr
def aBox (t : TypeId) (x : V) (h : List Blk) (K : KOp R) : Option R := match wholeV x with
  | true => K (.ptr h.length 0) [] (.push h.length (.own t (.vs (cellsV x))))
  | false => none
theorem ok_box {t : TypeId} {x : Operand} (ho : o.op = .box t x) : AopOk P o ev h (aBox t (ev x) h K) K := by
  intro r hr
  unfold aBox at hr
  split at hr
  · rename_i hw
    have hne : ev x ≠ .top := fun e => by rw [e] at hw; simp [wholeV] at hw
    have key : ∀ (n : Nat) (E : Env) (a : Act), (∀ z ∈ o.op.operands, VR E n (ev z) (a.eval z)) → a.eval x = conc E (ev x) ∧ inS n (ev x) = true := fun n E a hv =>
      (hv x (by simp [ho, Op.operands])).val hne
    refine ⟨_, _, _, hr, ⟨fun _ _ => rfl, rfl⟩, push_sem (fun n E a hv => cellsV_inS (key n E a hv).2) fun n E a W hv => ?_⟩
    obtain ⟨e1, _⟩ := key n E a hv
    have hc : (conc E (ev x)).cells = (concs E (cellsV (ev x))).toArray := by
      apply Array.ext'; simp [cellsV_conc hw]
    simp only [execOp, ho, Instr.box, e1, Sem.run_bind, newVar, newRow, run_newObj, Result.andThen_ok, Sem.run_pure, hc]
    simp
  · cases hr

/-! ### addresses -/
def aNilCheck (x : V) (K : KOp R) : Option R := match x with
  | .ptr _ _ | .glob _ _ | .func _ _ => K x [] .none
  | _ => none
theorem ok_nilCheck {x : Operand} (ho : o.op = .nilCheck x) : AopOk P o ev h (aNilCheck (ev x) K) K := by
  intro r hr
  have key : ∀ (v : V), ev x = v → (∃ b off, v = .ptr b off) ∨ (∃ g off, v = .glob g off) ∨ (∃ f c, v = .func f c) → K v [] .none = some r → ∃ v rd eff, K v rd eff = some r ∧ Same h h rd eff ∧ OpEff P o ev h v rd eff := fun v hx hc hk => by
    refine pureOk hk fun n E a W hv => ?_
    have h0 := hv x (by simp [ho, Op.operands])
    rw [hx] at h0
    refine ⟨a.eval x, h0, ?_⟩
    rcases hc with ⟨b, off, rfl⟩ | ⟨g, off, rfl⟩ | ⟨f, c, rfl⟩ <;> simp [execOp, ho, (h0.val (by simp)).1, conc]
  unfold aNilCheck at hr
  split at hr
  · rename_i b off hx; exact key _ hx (.inl ⟨b, off, rfl⟩) (by rw [← hx]; exact hr)
  · rename_i g off hx; exact key _ hx (.inr (.inl ⟨g, off, rfl⟩)) (by rw [← hx]; exact hr)
  · rename_i f c hx; exact key _ hx (.inr (.inr ⟨f, c, rfl⟩)) (by rw [← hx]; exact hr)
  · cases hr

def elemsN (n : Nat) : Nat → Nat
  | 1 => n
  | sz => n / sz
theorem elemsN_eq {n m sz : Nat} (hz : 0 < sz) (h : m * sz = n) : elemsN n sz = m := by
  unfold elemsN
  split
  · omega
  · rw [← h]; exact Nat.mul_div_cancel _ hz
/-- How many elements the block of a slice holds; its elements' size. -/
def sliceRow : Blk → Option (Nat × Row)
  | .rs _ sz row | .grow _ _ sz row => some (sz, row)
  | _ => none
theorem sliceRow_ok {blk : Blk} {sz : Nat} {row : Row} (hs : sliceRow blk = some (sz, row)) {E : Env} {n b : Nat} {W : World} (hk : BlkOk E n W b blk) :
    blk.row = row ∧ 0 < sz ∧ E.len b * sz = row.len ∧ E.len b ≤ E.cap b ∧ (E.isnil b = true → row.len = 0) ∧ blk ≠ .dead := by
  cases blk <;> simp [sliceRow] at hs
  · obtain ⟨rfl, rfl⟩ := hs
    obtain ⟨_, h1, h2, h3, h4, _⟩ := hk
    exact ⟨rfl, h1, h2, h3, fun h => (h4 h).1, by simp⟩
  · obtain ⟨rfl, rfl⟩ := hs
    obtain ⟨_, _, h1, h2, h3, h4, _⟩ := hk
    exact ⟨rfl, h1, h2, h3, fun h => (h4 h).1, by simp⟩

def aIndexAddr (P : Program) (t : TypeId) (x i : V) (h : List Blk) (K : KOp R) : Option R := match i, P.underlying t with
  | .int _ i, some (.array len e) => match szT P e with
    | some sz => match x with
      | .ptr b off => cond (decide (0 ≤ i ∧ i < len)) (K (.ptr b (addS off (mulS i.toNat sz))) [] .none) none
      | .glob g off => cond (decide (0 ≤ i ∧ i < len)) (K (.glob g (addS off (mulS i.toNat sz))) [] .none) none
      | _ => none
    | none => none
  | .int _ i, some (.slice e) => match szT P e with
    | some sz => match x with
      | .gs b => match sliceRow (getB h b) with
        | some (sz', row) => match Nat.beq sz' sz with
          | true => cond (decide (0 ≤ i ∧ i < Int.ofNat (elemsN row.len sz))) (K (.ptr b (mulS i.toNat sz)) [b] .none) none
          | false => none
        | none => none
      | .view b l sz2 len => match sliceRow (getB h b) with
        | some (sz', row) => match Nat.beq sz' sz && Nat.beq sz2 sz with
          | true => cond (decide (0 ≤ i ∧ i < Int.ofNat len ∧ l + len ≤ elemsN row.len sz)) (K (.ptr b (mulS (addS l i.toNat) sz)) [b] .none) none
          | false => none
        | none => none
      | _ => none
    | none => none
  | _, _ => none
theorem ok_indexAddr {t : TypeId} {x i : Operand} (ho : o.op = .indexAddr t x i) : AopOk P o ev h (aIndexAddr P t (ev x) (ev i) h K) K := by
  intro r hr
  have hvi : ∀ {n : Nat} {E : Env} {a : Act} {k : IntKind} {m : Int}, (∀ z ∈ o.op.operands, VR E n (ev z) (a.eval z)) → ev i = .int k m → a.eval i = .int k m := fun hv hi => by
    have h0 := hv i (by simp [ho, Op.operands]); rw [hi] at h0; exact h0.int
  have hvx : ∀ {n : Nat} {E : Env} {a : Act}, (∀ z ∈ o.op.operands, VR E n (ev z) (a.eval z)) → VR E n (ev x) (a.eval x) := fun hv => hv x (by simp [ho, Op.operands])
  unfold aIndexAddr at hr
  split at hr
  · rename_i k m len e hi hu
    split at hr
    · rename_i sz hsz
      split at hr
      · rename_i b off hx
        cases hb : decide (0 ≤ m ∧ m < len) with
        | false => rw [hb, cond_false] at hr; cases hr
        | true =>
          rw [hb] at hr
          simp only [decide_eq_true_eq] at hb
          refine pureOk hr fun n E a W hv => ?_
          have h0 := hvx hv
          rw [hx] at h0
          obtain ⟨e1, e2⟩ := h0.val (by simp)
          refine ⟨conc E (.ptr b (addS off (mulS m.toNat sz))), VR.of (by simpa [inS] using e2), ?_⟩
          simp only [execOp, ho, hvi hv hi, e1, conc, Instr.indexAt, asIntOf, Sem.run_bind, Sem.run_pure, Result.andThen_ok, run_underlying hu, Instr.sureAddr]
          rw [if_pos hb]
          simp only [Sem.run_bind, run_szT hsz, Result.andThen_ok, Sem.run_pure, Addr_add_lit, addS_eq, mulS_eq, Nat.add_assoc]
      · rename_i g off hx
        cases hb : decide (0 ≤ m ∧ m < len) with
        | false => rw [hb, cond_false] at hr; cases hr
        | true =>
          rw [hb] at hr
          simp only [decide_eq_true_eq] at hb
          refine pureOk hr fun n E a W hv => ?_
          have h0 := hvx hv
          rw [hx] at h0
          obtain ⟨e1, e2⟩ := h0.val (by simp)
          refine ⟨conc E (.glob g (addS off (mulS m.toNat sz))), VR.of (by simp [inS]), ?_⟩
          simp only [execOp, ho, hvi hv hi, e1, conc, Instr.indexAt, asIntOf, Sem.run_bind, Sem.run_pure, Result.andThen_ok, run_underlying hu, Instr.sureAddr]
          rw [if_pos hb]
          simp only [Sem.run_bind, run_szT hsz, Result.andThen_ok, Sem.run_pure, Addr_add_lit, addS_eq, mulS_eq]
      · cases hr
    · cases hr
  · rename_i k m e hi hu
    split at hr
    · rename_i sz hsz
      split at hr
      · rename_i b hx
        split at hr
        · rename_i sz' row hsr
          split at hr
          · rename_i hsz2
            have := Nat.eq_of_beq_eq_true hsz2
            subst this
            cases hb : decide (0 ≤ m ∧ m < Int.ofNat (elemsN row.len sz')) with
            | false => rw [hb, cond_false] at hr; cases hr
            | true =>
              rw [hb] at hr
              simp only [decide_eq_true_eq] at hb
              refine ⟨_, [b], .none, hr, fun _ _ => rfl, fun h2 hs => OpSem.value fun E a W hh hv => ?_⟩
              have hne : getB h b ≠ .dead := fun e => by rw [e] at hsr; simp [sliceRow] at hsr
              have hb2 : h2[b]? = some (getB h b) := (hs b (by simp)).trans (getB_some rfl hne)
              obtain ⟨_, hz, hl, hcap, hnil, _⟩ := sliceRow_ok hsr (hh.ok b _ hb2)
              rw [elemsN_eq hz hl] at hb
              have hn : E.isnil b = false := by
                cases hxx : E.isnil b with
                | false => rfl
                | true =>
                  have h1 := hnil hxx
                  rw [h1] at hl
                  have : E.len b = 0 := by
                    rcases Nat.mul_eq_zero.1 hl with h | h
                    · exact h
                    · omega
                  rw [this] at hb; simp at hb; omega
              have h0 := hvx hv
              rw [hx] at h0
              obtain ⟨e1, e2⟩ := h0.val (by simp)
              refine ⟨conc E (.ptr b (mulS m.toNat sz')), VR.of (by simpa [inS] using e2), ?_⟩
              simp only [execOp, ho, hvi hv hi, e1, conc, hn, cond_false, Instr.indexAt, asIntOf, Sem.run_bind, Sem.run_pure, Result.andThen_ok, run_underlying hu]
              rw [if_pos (by simpa using hb)]
              simp only [Sem.run_bind, run_szT hsz, Result.andThen_ok, Sem.run_pure, Addr_add_lit, mulS_eq]
          · cases hr
        · cases hr
      · rename_i b l sz2 len hx
        split at hr
        · rename_i sz' row hsr
          split at hr
          · rename_i hsz2
            simp only [Bool.and_eq_true] at hsz2
            have q1 := Nat.eq_of_beq_eq_true hsz2.1
            have q2 := Nat.eq_of_beq_eq_true hsz2.2
            subst q1
            subst q2
            cases hb : decide (0 ≤ m ∧ m < Int.ofNat len ∧ l + len ≤ elemsN row.len sz2) with
            | false => rw [hb, cond_false] at hr; cases hr
            | true =>
              rw [hb] at hr
              simp only [decide_eq_true_eq] at hb
              refine ⟨_, [b], .none, hr, fun _ _ => rfl, fun h2 hs => OpSem.value fun E a W hh hv => ?_⟩
              have hne : getB h b ≠ .dead := fun e => by rw [e] at hsr; simp [sliceRow] at hsr
              have hb2 : h2[b]? = some (getB h b) := (hs b (by simp)).trans (getB_some rfl hne)
              obtain ⟨_, hz, hl, hcap, hnil, _⟩ := sliceRow_ok hsr (hh.ok b _ hb2)
              rw [elemsN_eq hz hl] at hb
              have hpos : 0 < len := by
                have := hb.1; have := hb.2.1
                simp at this; omega
              have hn : E.isnil b = false := by
                cases hxx : E.isnil b with
                | false => rfl
                | true =>
                  have h1 := hnil hxx
                  rw [h1] at hl
                  have : E.len b = 0 := by
                    rcases Nat.mul_eq_zero.1 hl with h | h
                    · exact h
                    · omega
                  omega
              have h0 := hvx hv
              rw [hx] at h0
              obtain ⟨e1, e2⟩ := h0.val (by simp)
              refine ⟨conc E (.ptr b (mulS (addS l m.toNat) sz2)), VR.of (by simpa [inS] using e2), ?_⟩
              have hcl : ¬ E.cap b = l := by omega
              simp only [execOp, ho, hvi hv hi, e1, conc, hn, cond_false, if_neg hcl, Instr.indexAt, asIntOf, Sem.run_bind, Sem.run_pure, Result.andThen_ok, run_underlying hu]
              rw [if_pos ⟨hb.1, by simpa using hb.2.1⟩]
              simp only [Sem.run_bind, run_szT hsz, Result.andThen_ok, Sem.run_pure, Addr_add_lit, mulS_eq, addS_eq]
              congr 4
              rw [Nat.add_mul, Nat.add_assoc]
          · cases hr
        · cases hr
      · cases hr
    · cases hr
  · cases hr

def aFieldAddr (P : Program) (t : TypeId) (x : V) (f : Nat) (K : KOp R) : Option R := match P.underlying t with
  | some (.struct fs) => match fs[f]? with
    | some fd => match szT P fd.type with
      | some (_ + 1) => match x with
        | .ptr b off => K (.ptr b (addS off fd.offset)) [] .none
        | .glob g off => K (.glob g (addS off fd.offset)) [] .none
        | _ => none
      | _ => none
    | none => none
  | _ => none
theorem ok_fieldAddr {t : TypeId} {x : Operand} {f : Nat} (ho : o.op = .fieldAddr t x f) : AopOk P o ev h (aFieldAddr P t (ev x) f K) K := by
  intro r hr
  unfold aFieldAddr at hr
  split at hr
  · rename_i fs hu
    split at hr
    · rename_i fd hf
      split at hr
      · rename_i n hsz
        split at hr
        · rename_i b off hx
          refine pureOk hr fun n' E a W hv => ?_
          have h0 := hv x (by simp [ho, Op.operands])
          rw [hx] at h0
          obtain ⟨e1, e2⟩ := h0.val (by simp)
          refine ⟨conc E (.ptr b (addS off fd.offset)), VR.of (by simpa [inS] using e2), ?_⟩
          simp only [execOp, ho, e1, conc, Instr.fieldAt, Sem.run_bind, run_underlying hu, Result.andThen_ok, hf, Instr.sureAddr, Sem.run_pure, fieldPlace, run_szT hsz]
          rw [if_neg (by omega)]
          simp only [Sem.run_pure, Result.andThen_ok, Addr_add_lit, addS_eq, Nat.add_assoc]
        · rename_i g off hx
          refine pureOk hr fun n' E a W hv => ?_
          have h0 := hv x (by simp [ho, Op.operands])
          rw [hx] at h0
          obtain ⟨e1, e2⟩ := h0.val (by simp)
          refine ⟨conc E (.glob g (addS off fd.offset)), VR.of (by simp [inS]), ?_⟩
          simp only [execOp, ho, e1, conc, Instr.fieldAt, Sem.run_bind, run_underlying hu, Result.andThen_ok, hf, Instr.sureAddr, Sem.run_pure, fieldPlace, run_szT hsz]
          rw [if_neg (by omega)]
          simp only [Sem.run_pure, Result.andThen_ok, Addr_add_lit, addS_eq]
        · cases hr
      · cases hr
    · cases hr
  · cases hr

end
end Go.Eng
