/- ENGINE, PART 5f: bytes and strings. -/
import Derived.Test.YtbocdcnkmcejjaaDoorEngOpsAppend2
namespace Go.Eng
open Go

def bytesOf (l : List Int) : ByteArray := ⟨(l.map fun n => UInt8.ofNat n.toNat).toArray⟩
theorem foldl_push (l : List Int) : ∀ (s : ByteArray), l.foldl (fun r n => r.push (UInt8.ofNat n.toNat)) s = catS s (bytesOf l) := by
  induction l with
  | nil => intro s; cases s; simp [catS, bytesOf]
  | cons n r ih =>
    intro s
    rw [List.foldl_cons, ih]
    simp [catS, bytesOf, ByteArray.push]
def rowBytes : Row → Option ByteArray
  | .ints .u8 l => some (bytesOf l)
  | .vs l => match intsVs .u8 l with
    | some m => some (bytesOf m)
    | none => none
  | _ => none
theorem rowBytes_ok {row : Row} {s : ByteArray} (h : rowBytes row = some s) : ∃ l : List Int, row.toVs = l.map (.int .u8) ∧ s = bytesOf l := by
  unfold rowBytes at h
  split at h
  · injection h with h; exact ⟨_, rfl, h.symm⟩
  · split at h
    · rename_i m hm; injection h with h; exact ⟨m, intsVs_ok hm, h.symm⟩
    · cases h
  · cases h

section
variable {R : Type} {P : Program} {o : Oper} {ev : Operand → V} {h : List Blk} {K : KOp R}

def srcRd : V → List Nat
  | .gs b | .view b _ _ _ | .aslice b _ _ _ => [b]
  | _ => []
theorem srcK_flat {v : Value} {sz : Nat} {h h2 : List Blk} {Ks : Row → Option R} : srcK (.flat v) sz h2 Ks = srcK (.flat v) sz h Ks := by
  cases v <;> try rfl
  rename_i ba l c
  cases l <;> try rfl
  cases c <;> rfl
theorem srcK_same {x : V} {sz : Nat} {h2 : List Blk} {Ks : Row → Option R} (hs : ∀ b ∈ srcRd x, h2[b]? = h[b]?) : srcK x sz h2 Ks = srcK x sz h Ks := by
  have : ∀ b, b ∈ srcRd x → getB h2 b = getB h b := fun b hb => by rw [getB_eq, getB_eq, hs b hb]
  cases x
  case gs b => simp only [srcK, this b (by simp [srcRd])]
  case view b l sz2 len => simp only [srcK, this b (by simp [srcRd])]
  case aslice b off len cap => simp only [srcK, this b (by simp [srcRd])]
  case flat v => exact srcK_flat
  all_goals rfl
theorem srcK_bind {x : V} {sz : Nat} {Ks : Row → Option R} : srcK x sz h Ks = (srcK x sz h (fun q => some q)).bind Ks := by
  cases x
  case gs b =>
    simp only [srcK]
    cases sliceRow (getB h b) with
    | none => rfl
    | some p => obtain ⟨a, q⟩ := p; simp only; cases Nat.beq a sz <;> rfl
  case view b l sz2 len =>
    simp only [srcK]
    cases sliceRow (getB h b) with
    | none => rfl
    | some p =>
      obtain ⟨a, q⟩ := p
      simp only
      cases (Nat.beq a sz && Nat.beq sz2 sz) with
      | false => rfl
      | true =>
        simp only
        cases decide (l + len ≤ elemsN q.len sz) with
        | false => rfl
        | true => simp only [cond_true]; cases rowSub q (mulS l sz) (mulS len sz) <;> rfl
  case aslice b off len cap =>
    simp only [srcK]
    cases getB h b <;> try rfl
    rename_i ty row
    simp only
    cases rowSub row off (mulS len sz) with
    | none => rfl
    | some q => simp only; cases decide (off + mulS len sz ≤ row.len) <;> rfl
  case flat v =>
    cases v <;> try rfl
    rename_i ba l c
    cases l <;> try rfl
    cases c <;> rfl
  case str s => simp only [srcK]; cases Nat.beq sz 1 <;> rfl
  all_goals rfl
theorem srcK_row {x : V} {sz : Nat} {Ks : Row → Option R} {r : R} (hr : srcK x sz h Ks = some r) : ∃ row, Ks row = some r ∧ srcK x sz h (fun q => some q) = some row := by
  rw [srcK_bind] at hr
  cases hs : srcK x sz h (fun q => some q) with
  | none => rw [hs] at hr; cases hr
  | some row => rw [hs] at hr; exact ⟨row, hr, rfl⟩

def notStr : V → Bool
  | .str _ => false
  | _ => true
theorem srcK_slice {x : V} {sz : Nat} {Ks : Row → Option R} {r : R} (hr : srcK x sz h Ks = some r) (hns : notStr x = true) {E : Env} {n : Nat} {y : Value} (hy : VR E n x y) : ∃ ba m c, y = .slice ba m c := by
  unfold srcK at hr
  split at hr
  · rename_i b
    rw [(hy.val (by simp)).1, conc]
    cases E.isnil b <;> exact ⟨_, _, _, rfl⟩
  · rename_i b _ _ _
    rw [(hy.val (by simp)).1, conc]
    cases E.isnil b <;> exact ⟨_, _, _, rfl⟩
  · exact ⟨_, _, _, (hy.val (by simp)).1⟩
  · exact ⟨_, _, _, (hy.val (by simp)).1⟩
  · simp [notStr] at hns
  · cases hr
def aConv (P : Program) (src dst : TypeId) (x : V) (h : List Blk) (K : KOp R) : Option R := match P.underlying src, P.underlying dst with
  | some (.slice e), some .string => match P.underlying e with
    | some (.int .u8) => match notStr x with
      | true => srcK x 1 h (fun row => match rowBytes row with
        | some s => K (.str s) (srcRd x) .none
        | none => none)
      | false => none
    | _ => none
  | some .string, some (.slice e) => match P.underlying e, x with
    | some (.int .u8), .str s => K (.gs h.length) [] (.push h.length (.grow true e 1 (.ints .u8 (bytesI s))))
    | _, _ => none
  | _, _ => aConvert P src dst x K
theorem ok_conv {src dst : TypeId} {x : Operand} (ho : o.op = .convert src dst x) : AopOk P o ev h (aConv P src dst (ev x) h K) K := by
  intro r hr
  unfold aConv at hr
  split at hr
  · rename_i e hsr hds
    split at hr
    · rename_i he
      split at hr
      · rename_i hns
        obtain ⟨row, hk, hrow⟩ := srcK_row hr
        split at hk
        · rename_i s hs
          obtain ⟨l, hl, hsl⟩ := rowBytes_ok hs
          refine ⟨_, _, _, hk, fun _ _ => rfl, fun h2 hsame => OpSem.value fun E a W hh hv => ⟨.string s, VR.mkStr, ?_⟩⟩
          have hrow2 : srcK (ev x) 1 h2 (fun q => some q) = some row := by rw [srcK_same (h := h) hsame]; exact hrow
          obtain ⟨row', e1, H⟩ := srcK_ok (P := P) (by omega) hrow2
          injection e1 with e1
          subst e1
          have hvx := hv x (by simp [ho, Op.operands])
          obtain ⟨hin, n, hn, hlen, hf⟩ := H E W hh _ hvx
          have hf := hf W hh
          rw [hl, concs_eq, List.map_map] at hf
          have hlv : (conc E ∘ V.int IntKind.u8) = Value.int .u8 := by funext z; simp [conc]
          rw [hlv] at hf
          simp only [execOp, ho, Sem.run_bind]
          obtain ⟨ba, m, c, hy⟩ := srcK_slice hrow2 hns hvx
          rw [hy] at hlen hf ⊢
          rw [run_convert_bytes_string W src dst e ba m c hsr he hds]
          have hmn : m = n := by
            have := hlen W
            simp only [Builtin.lenOf, Sem.run_pure] at this
            injection this
          subst hmn
          cases ba with
          | none =>
            simp only [Builtin.firstCells, Sem.run_pure] at hf
            have hl0 : l = [] := by
              cases l with
              | nil => rfl
              | cons z r => simp at hf
            subst hl0
            subst hsl
            simp only [Conv.bytesToString, Sem.run_pure, Result.andThen_ok]
            congr 3
          | some ad =>
            simp only [Builtin.firstCells, Nat.mul_one] at hf
            rw [run_bytesToString W ad m c l hf, foldl_push]
            simp only [Result.andThen_ok, Sem.run_pure]
            rw [hsl]
            congr 3
        · cases hk
      · cases hr
    · cases hr
  · rename_i e hsr hds
    split at hr
    · rename_i s he hx
      refine ⟨_, _, _, hr, ⟨fun _ _ => rfl, rfl⟩, fun h2 hs => ?_⟩
      obtain ⟨_, hlen⟩ := hs
      intro E a W hh hv next Q hnext
      have hvx := hv x (by simp [ho, Op.operands])
      rw [hx] at hvx
      have hrow : (Row.ints .u8 (bytesI s)).toVs = (bytesI s).map (.int .u8) := rfl
      have hin : ∀ n, inSs n (Row.ints .u8 (bytesI s)).toVs = true := fun n => by
        rw [hrow, inSs_eq, List.all_eq_true]; intro v hv; obtain ⟨z, _, rfl⟩ := List.mem_map.1 hv; rfl
      have hbl : (bytesI s).length = s.size := by rw [lenS_eq, lenS, bytesI, List.length_map]
      obtain ⟨cap, hcap, hrun⟩ : ∃ cap, s.size ≤ cap ∧ (execOp a.eval o).run P W = .ok (.value (.slice (some ⟨W.heap.size, 0, none⟩) s.size cap))
          (W.drew.alloc (.cells (concs E (Row.ints .u8 (bytesI s)).toVs ++ List.replicate (cap - s.size) (Value.int .u8 0)).toArray e (cap, cap + 1))) := by
        refine ⟨(Question.appendCap s.size 0 e).cut (W.tape W.drawn (.appendCap s.size 0 e)), by simp [Question.cut], ?_⟩
        generalize hcap : (Question.appendCap s.size 0 e).cut (W.tape W.drawn (.appendCap s.size 0 e)) = cap
        have hc : s.size ≤ cap := by rw [← hcap]; simp [Question.cut]
        have hcells : s.data.map (fun b => Value.int .u8 b.toNat) ++ Array.replicate (cap - s.size) (Value.int .u8 0) = (concs E (Row.ints .u8 (bytesI s)).toVs ++ List.replicate (cap - s.size) (Value.int .u8 0)).toArray := by
          apply Array.ext'
          rw [hrow]
          simp [concs_eq, bytesI, conc, Function.comp_def]
        have hsz : (concs E (Row.ints .u8 (bytesI s)).toVs ++ List.replicate (cap - s.size) (Value.int .u8 0)).length = cap := by
          rw [List.length_append, concs_eq, List.length_map, hrow, List.length_map, hbl, List.length_replicate]; omega
        generalize (concs E (Row.ints .u8 (bytesI s)).toVs ++ List.replicate (cap - s.size) (Value.int .u8 0)) = arr at hcells hsz ⊢
        simp only [execOp, ho, hvx.str, Sem.run_bind, convert, run_underlying hsr, run_underlying hds, Result.andThen_ok, run_underlying he, Conv.stringToBytes, run_choose, Question.forced, Bool.false_eq_true, if_false, hcap, World.drew_eq, newRow, run_newObj, World.alloc_eq, Sem.run_pure, hcells]
        simp only [markStringish, Sem.run_bind, run_shape, Result.andThen_ok]
        have hnew : (W.drew.alloc (.cells arr.toArray e)).heap[W.drew.heap.size]? = some (.cells arr.toArray e) := World.alloc_heap_new _ _
        have hsh : (W.drew.alloc (.cells arr.toArray e)).shape? W.drew.heap.size = some (e, cap) := by
          unfold World.shape?
          rw [hnew]
          simp [hsz]
        rw [hsh]
        simp only [run_freeze, Result.andThen_ok]
        have hfr : World.freeze (W.drew.alloc (.cells arr.toArray e)) ⟨W.drew.heap.size, cap, none⟩ 1 = W.drew.alloc (.cells arr.toArray e (cap, cap + 1)) := by
          unfold World.freeze
          rw [if_neg (by omega)]
          simp only [World.alloc]
          congr 1
          apply Array.ext'
          apply List.ext_getElem?
          intro k
          simp only [Array.getElem?_toList, Array.getElem?_modify, Array.getElem?_push]
          by_cases hk : W.drew.heap.size = k
          · subst hk; simp
          · have h1 : ¬ W.heap.size = k := hk
            have h2 : ¬ k = W.heap.size := fun e => hk e.symm
            simp [h1, h2]
        first | rw [hfr] | (simp only [hfr])
        rfl
      have hE := Agree.put E h2.length W.drew.heap.size s.size cap false
      obtain ⟨h1, h3⟩ := hh.drew.newBlk (.cells (concs E (Row.ints .u8 (bytesI s)).toVs ++ List.replicate (cap - s.size) (Value.int .u8 0)).toArray e (cap, cap + 1)) s.size cap (.grow true e 1 (.ints .u8 (bytesI s))) (by
        refine ⟨by simp [Env.put], hin _, by omega, by simp [Env.put, Row.len, hbl], by simp [Env.put, hcap], fun h => by simp [Env.put] at h, fun _ => ⟨(cap, cap + 1), List.replicate (cap - s.size) (Value.int .u8 0), ?_, by simp [Env.put, Row.len, hbl]; omega, ?_⟩⟩
        · intro q hq hx
          have hx1 := hx.1
          simp only [Row.len, hbl, List.length_replicate] at hq
          simp only at hx1
          omega
        · rw [concs_agree hE _ (hin _)]
          simp only [Env.put, if_true]
          exact World.alloc_heap_new _ _)
      refine Oper.wpE_value hrun ?_
      rw [hlen] at h1 h3
      refine hnext _ _ _ (.inr ⟨?_, ?_⟩) h1 (Trans.drew.trans h3)
      · simp [inS, HEff.app, ← hlen]
      · simp [conc, Env.put]
    · cases hr
  · exact ok_convert ho r hr

end
end Go.Eng
