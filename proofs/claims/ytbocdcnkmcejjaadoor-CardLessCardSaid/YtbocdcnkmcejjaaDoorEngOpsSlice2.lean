/- ENGINE, PART 5c: new slices; parts of slices and strings. -/
import Derived.Test.YtbocdcnkmcejjaaDoorEngOpsSlice
namespace Go.Eng
open Go
section
variable {R : Type} {P : Program} {o : Oper} {ev : Operand → V} {h : List Blk} {K : KOp R}

/-- An operation that makes a block and hands back the slice over it. -/
theorem newSlice_sem {ty : TypeId} {sz : Nat} {row : Row} {len cap : Nat} (hz : 0 < sz) (hl : len * sz = row.len) (hcap : len ≤ cap)
    (hin : ∀ (n : Nat) (E : Env) (a : Act), (∀ x ∈ o.op.operands, VR E n (ev x) (a.eval x)) → inSs n row.toVs = true)
    (hrun : ∀ (n : Nat) (E : Env) (a : Act) (W : World), (∀ x ∈ o.op.operands, VR E n (ev x) (a.eval x)) → ∃ spare fz, thawed fz (row.len + spare.length) ∧ row.len + spare.length = cap * sz ∧
      (execOp a.eval o).run P W = .ok (.value (.slice (some ⟨W.heap.size, 0, none⟩) len cap)) (W.alloc (.cells (concs E row.toVs ++ spare).toArray ty fz))) :
    OpEff P o ev h (.gs h.length) [] (.push h.length (.grow true ty sz row)) := by
  intro h2 hs E a W hh hv next Q hnext
  obtain ⟨_, hlen⟩ := hs
  obtain ⟨spare, fz, hfz, hsz, hr⟩ := hrun _ E a W hv
  have hE := Agree.put E h2.length W.heap.size len cap false
  have hi := hin _ E a hv
  obtain ⟨h1, h3⟩ := hh.newBlk (.cells (concs E row.toVs ++ spare).toArray ty fz) len cap (.grow true ty sz row) (by
    refine ⟨by simp [Env.put], inSs_mono (Nat.le_succ _) _ hi, hz, by simp [Env.put, hl], by simp [Env.put, hcap], fun h => by simp [Env.put] at h, fun _ => ⟨fz, spare, hfz, by simp [Env.put, hsz], ?_⟩⟩
    rw [concs_agree hE _ hi]
    simp only [Env.put, if_true]
    show (W.heap.push _)[W.heap.size]? = _
    simp)
  refine Oper.wpE_value hr ?_
  rw [hlen] at h1 h3
  refine hnext _ _ _ (.inr ⟨?_, ?_⟩) h1 h3
  · simp [inS, HEff.app, ← hlen]
  · simp [conc, Env.put]

def mulCells : Nat → List V → List V
  | 0, _ => []
  | n + 1, l => appV l (mulCells n l)
def rowOf (z : Value) (n : Nat) : Row := match z with
  | .int k m => .ints k (List.replicate n m)
  | .string s => .strs (List.replicate n s)
  | .agg cs => .vs (mulCells n (cs.toList.map ofScalar))
  | v => .vs (List.replicate n (ofScalar v))
theorem mulCells_len (n : Nat) (l : List V) : (mulCells n l).length = n * l.length := by
  induction n with
  | zero => simp [mulCells]
  | succ n ih => simp [mulCells, appV_eq, ih, Nat.succ_mul, Nat.add_comm]
theorem mulCells_inS {m n : Nat} {l : List V} (h : inSs m l = true) : inSs m (mulCells n l) = true := by
  induction n with
  | zero => rfl
  | succ n ih => rw [mulCells, appV_eq, inSs_append, h, ih]; rfl
theorem rowOf_len {z : Value} {n : Nat} : (rowOf z n).len = n * z.cells.size := by
  cases z <;> simp [rowOf, Row.len, Value.cells, mulCells_len]
theorem rowOf_inS {z : Value} {n m : Nat} : inSs m (rowOf z n).toVs = true := by
  cases z <;> simp only [rowOf, Row.toVs] <;> first
    | exact mulCells_inS (inSs_ofScalar _ _)
    | (rw [inSs_eq, List.all_eq_true]; intro x hx; simp only [List.mem_map, List.mem_replicate] at hx; first | (obtain ⟨y, _, rfl⟩ := hx; simp [inS]) | (obtain ⟨_, rfl⟩ := hx; simp [inS, ofScalar]))
theorem zero_cells (cs : Array Value) : ∀ (n : Nat), cs.size ≠ 0 → ((Array.range (n * cs.size)).map fun i => cs[i % cs.size]!).toList = (List.replicate n cs.toList).flatten
  | 0, _ => by simp
  | n + 1, hne => by
    have ih := zero_cells cs n hne
    rw [List.replicate_succ', List.flatten_append, ← ih]
    simp only [Array.toList_map, Array.toList_range, Nat.succ_mul, List.range_add, List.map_append, List.flatten_cons, List.flatten_nil, List.append_nil, List.map_map]
    congr 1
    apply List.ext_getElem
    · simp
    · intro i h1 h2
      simp at h1
      simp [Nat.add_mod, Nat.mod_eq_of_lt h1, h1]
theorem rowOf_concs (E : Env) (z : Value) (n : Nat) : concs E (rowOf z n).toVs = (List.replicate n z.cells.toList).flatten := by
  have one : ∀ (v : Value) (u : V), conc E u = v → concs E (List.replicate n u) = (List.replicate n [v]).flatten := fun v u hu => by
    induction n with
    | zero => rfl
    | succ n ih => simp [List.replicate_succ, concs, hu, ih]
  have mul : ∀ (l : List V), concs E (mulCells n l) = (List.replicate n (concs E l)).flatten := fun l => by
    clear one
    induction n with
    | zero => rfl
    | succ n ih => simp [mulCells, appV_eq, concs_append, List.replicate_succ, ih]
  cases z <;> simp only [rowOf, Row.toVs, Value.cells, List.map_replicate] <;> first
    | exact one _ _ (by simp [conc])
    | exact one _ _ (by simp [conc, ofScalar])
    | (rw [mul, concs_ofScalar])

def aMake (P : Program) (t : TypeId) (l c : V) (h : List Blk) (K : KOp R) : Option R := match P.underlying t, l, c with
  | some (.slice e), .int _ l, .int _ c => match P.info? e with
    | some i => match i.zero with
      | some z => match Nat.beq z.cells.size i.size && Nat.ble 1 i.size with
        | true => cond (decide (0 ≤ l ∧ l ≤ c ∧ c * (i.bytes + 1) ≤ 140737488355328))
            (K (.gs h.length) [] (.push h.length (.grow true e i.size (rowOf z l.toNat)))) none
        | false => none
      | none => none
    | none => none
  | _, _, _ => none
theorem ok_make {t : TypeId} {l c : Operand} (ho : o.op = .makeSlice t l c) : AopOk P o ev h (aMake P t (ev l) (ev c) h K) K := by
  intro r hr
  unfold aMake at hr
  split at hr
  · rename_i e k1 l' k2 c' hu hl hc
    split at hr
    · rename_i i hi
      split at hr
      · rename_i z hz
        split at hr
        · rename_i hsz
          simp only [Bool.and_eq_true] at hsz
          have hs1 := Nat.eq_of_beq_eq_true hsz.1
          have hs2 := Nat.le_of_ble_eq_true hsz.2
          cases hb : decide (0 ≤ l' ∧ l' ≤ c' ∧ c' * (i.bytes + 1) ≤ 140737488355328) with
          | false => rw [hb, cond_false] at hr; cases hr
          | true =>
            rw [hb, cond_true] at hr
            simp only [decide_eq_true_eq] at hb
            obtain ⟨b1, b2, b3⟩ := hb
            have b4 : c' ≤ 140737488355328 := by
              have h1 : (0 : Int) ≤ c' := by omega
              have h2 : c' * 1 ≤ c' * (i.bytes + 1) := Int.mul_le_mul_of_nonneg_left (by omega) h1
              omega
            have b5 : (i.bytes : Int) * c' ≤ 140737488355328 := by
              have h1 : (0 : Int) ≤ c' := by omega
              have : c' * (i.bytes + 1) = i.bytes * c' + c' := by rw [Int.mul_add, Int.mul_one, Int.mul_comm]
              omega
            refine ⟨_, _, _, hr, ⟨fun _ _ => rfl, rfl⟩, newSlice_sem (len := l'.toNat) (cap := c'.toNat) hs2 (by rw [rowOf_len, hs1]) (by omega) (fun n _ _ _ => rowOf_inS) fun n E a W hv => ?_⟩
            have hvl := hv l (by simp [ho, Op.operands])
            have hvc := hv c (by simp [ho, Op.operands])
            rw [hl] at hvl; rw [hc] at hvc
            refine ⟨(List.replicate (c'.toNat - l'.toNat) z.cells.toList).flatten, (0, 0), fun o ho h => by omega, ?_, ?_⟩
            · rw [rowOf_len, hs1]
              simp only [List.length_flatten, List.map_replicate, List.sum_replicate_nat, Array.length_toList, hs1]
              rw [← Nat.add_mul]
              congr 1
              omega
            · have w1 : IntKind.i64.wrap l' = l' := by
                rw [wr_eq]; simp only [wr, sgn, cond_eq_ite, decide_eq_true_eq]
                rw [Int.emod_eq_of_lt (by omega) (by omega), if_neg (by omega)]
              have w2 : IntKind.i64.wrap c' = c' := by
                rw [wr_eq]; simp only [wr, sgn, cond_eq_ite, decide_eq_true_eq]
                rw [Int.emod_eq_of_lt (by omega) (by omega), if_neg (by omega)]
              have hz' : zeroOf P e = some z := by simp [zeroOf, hi, hz]
              simp only [execOp, ho, hvl.int, hvc.int, Instr.makeSlice, Sem.run_bind, run_underlying hu, Result.andThen_ok, asInt, asIntOf, Sem.run_pure, typeInfo, run_program, hi, w1, w2]
              have q1 : (decide (c' < 0) || decide (↑i.bytes * c' > 2 ^ 48)) = false := by
                simp only [Bool.or_eq_false_iff, decide_eq_false_iff_not]; constructor <;> omega
              have q2 : decide (l' < 0) = false := by simp; omega
              have q3 : decide (l' > c') = false := by simp; omega
              simp only [q1, q2, q3, Bool.or_self, Bool.false_eq_true, if_false]
              simp only [run_askRoom, Result.andThen_ok, Sem.run_bind, run_szT (show szT P e = some i.size by simp [szT, hi])]
              have hcells : ∀ n, n * i.size = c'.toNat * i.size → True := fun _ _ => trivial
              by_cases hn : c'.toNat * i.size = 0
              · have hc0 : c'.toNat = 0 := by
                  rcases Nat.mul_eq_zero.1 hn with h | h
                  · exact h
                  · omega
                have hl0 : l'.toNat = 0 := by omega
                simp only [newRow, hc0, hl0]
                rw [rowOf_concs]
                have hr0 : ∀ (f : Nat → Value), (Array.range 0).map f = #[] := fun f => Array.eq_empty_of_size_eq_zero (by simp)
                simp [hr0]
              · simp only [hn, if_false, Sem.run_bind, run_zeroOf hz', Result.andThen_ok, Sem.run_pure, newRow, run_newObj]
                rw [rowOf_concs, ← List.flatten_append, List.replicate_append_replicate, show l'.toNat + (c'.toNat - l'.toNat) = c'.toNat by omega]
                have hcz := zero_cells z.cells c'.toNat (by omega)
                rw [hs1] at hcz
                rw [show ((Array.range (c'.toNat * i.size)).map fun x => z.cells[x % z.cells.size]!) = (List.replicate c'.toNat z.cells.toList).flatten.toArray by
                  apply Array.ext'; rw [hs1, hcz]]
                simp
        · cases hr
      · cases hr
    · cases hr
  · cases hr

def zerosB (P : Program) (e : TypeId) (n : Nat) : Option (Nat × List V) := match P.info? e with
  | some i => match i.zero with
    | some z => match Nat.beq z.cells.size i.size && Nat.ble 1 i.size && Nat.ble (n * i.size) 16777216 with
      | true => some (i.size, mulCells n (zeroCells z))
      | false => none
    | none => none
  | none => none
theorem flatten_zero (E : Env) (z : Value) (n : Nat) : concs E (mulCells n (zeroCells z)) = (List.replicate n z.cells.toList).flatten := by
  induction n with
  | zero => rfl
  | succ n ih => simp [mulCells, appV_eq, concs_append, List.replicate_succ, ih, zeroCells_eq]
def aBuildSlice (P : Program) (t : TypeId) (n : Nat) (parts : List (Nat × V)) (h : List Blk) (K : KOp R) : Option R := match P.underlying t with
  | some (.slice e) => match zerosB P e n with
    | some (sz, zs) => match fillV (fun i => some (i * sz, sz)) zs parts with
      | some m => match Nat.beq m.length (n * sz) with
        | true => K (.gs h.length) [] (.push h.length (.grow true e sz (.vs m)))
        | false => none
      | none => none
    | none => none
  | _ => none
theorem ok_buildSlice {t : TypeId} {n : Nat} {ps : Array (Nat × Operand)} (ho : o.op = .buildSlice t n ps) : AopOk P o ev h (aBuildSlice P t n (partsEv ev ps.toList) h K) K := by
  intro r hr
  rw [partsEv_eq] at hr
  have hvp : ∀ {n : Nat} {E : Env} {a : Act}, (∀ z ∈ o.op.operands, VR E n (ev z) (a.eval z)) → ∀ x ∈ ps.toList, VR E n (ev x.2) (a.eval x.2) := fun hv x hx => hv x.2 (by
    rw [ho]; simp only [Op.operands]; simp only [List.mem_toArray, List.mem_map]; exact ⟨x, hx, rfl⟩)
  unfold aBuildSlice at hr
  split at hr
  · rename_i e hu
    split at hr
    · rename_i sz zs hzb
      split at hr
      · rename_i m hm
        split at hr
        · rename_i hml
          have hml := Nat.eq_of_beq_eq_true hml
          unfold zerosB at hzb
          split at hzb
          · rename_i i hi
            split at hzb
            · rename_i z hz
              split at hzb
              · rename_i hb
                injection hzb with hzb
                obtain ⟨rfl, rfl⟩ := Prod.mk.inj hzb
                simp only [Bool.and_eq_true] at hb
                have hs1 := Nat.eq_of_beq_eq_true hb.1.1
                have hs2 := Nat.le_of_ble_eq_true hb.1.2
                have hs3 := Nat.le_of_ble_eq_true hb.2
                have hz' : zeroOf P e = some z := by simp [zeroOf, hi, hz]
                have hzin : ∀ q, inSs q (mulCells n (zeroCells z)) = true := fun q => mulCells_inS (zeroCells_inS q z)
                refine ⟨_, _, _, hr, ⟨fun _ _ => rfl, rfl⟩, newSlice_sem (len := n) (cap := n) hs2 (by simp only [Row.len]; exact hml.symm) (Nat.le_refl _) (fun q E a hv => (fill_ok hm (hvp hv) (hzin q)).2) fun q E a W hv => ?_⟩
                obtain ⟨h1, h2⟩ := fill_ok hm (hvp hv) (hzin q)
                refine ⟨[], (0, 0), fun o ho h => by omega, by simp only [Row.len, List.length_nil, Nat.add_zero]; exact hml, ?_⟩
                simp only [execOp, ho, Instr.buildSlice, Sem.run_bind, run_underlying hu, Result.andThen_ok, run_szT (show szT P e = some i.size by simp [szT, hi])]
                rw [if_neg (by omega)]
                rw [flatten_zero] at h1
                have hcells : ∀ (zc : Array Value), (n * i.size = 0 ∨ zc = z.cells) → ((Array.range (n * i.size)).map fun x => zc[x % zc.size]!) = (List.replicate n z.cells.toList).flatten.toArray := fun zc hzc => by
                  by_cases hn : n = 0
                  · subst hn; simp
                  · have : zc = z.cells := by
                      rcases hzc with h | h
                      · rcases Nat.mul_eq_zero.1 h with h | h <;> omega
                      · exact h
                    subst this
                    apply Array.ext'
                    have := zero_cells z.cells n (by omega)
                    rw [hs1] at this ⊢
                    exact this
                have hmap : (ps.map fun (x : Nat × Operand) => (x.1, a.eval x.2)).toList = ps.toList.map fun x => (x.1, a.eval x.2) := by simp
                by_cases hn : n * i.size = 0
                · simp only [hn, if_true, Sem.run_bind, Sem.run_pure, Result.andThen_ok]
                  have hc := hcells #[] (.inl hn)
                  rw [hn] at hc
                  rw [hc, hmap, h1]
                  simp [newRow, Row.toVs]
                · simp only [hn, if_false, Sem.run_bind, run_zeroOf hz', Result.andThen_ok, Sem.run_pure]
                  rw [hcells z.cells (.inr rfl), hmap, h1]
                  simp [newRow, Row.toVs]
              · cases hzb
            · cases hzb
          · cases hzb
        · cases hr
      · cases hr
    · cases hr
  · cases hr

end
end Go.Eng
