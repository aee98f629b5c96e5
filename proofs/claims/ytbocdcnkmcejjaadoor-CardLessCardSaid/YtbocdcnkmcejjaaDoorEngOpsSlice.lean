/- ENGINE, PART 5b: slices: length, making, cutting, appending. -/
import Derived.Test.YtbocdcnkmcejjaaDoorEngRegion
namespace Go.Eng
open Go

/-- A new block, of whatever kind. -/
theorem Holds.newBlk {E : Env} {h : List Blk} {W : World} (hh : Holds E h W) (ob : Obj) (len cap : Nat) (blk : Blk)
    (hnew : BlkOk (E.put h.length W.heap.size len cap false) (h.length + 1) (W.alloc ob) h.length blk) :
    Holds (E.put h.length W.heap.size len cap false) (h ++ [blk]) (W.alloc ob) ∧ Trans E h W (E.put h.length W.heap.size len cap false) (h ++ [blk]) (W.alloc ob) := by
  have hE := Agree.put E h.length W.heap.size len cap false
  have hold : ∀ k, k < W.heap.size → (W.alloc ob).heap[k]? = W.heap[k]? := fun k hk => by
    show (W.heap.push _)[k]? = _
    rw [Array.getElem?_push, if_neg (by omega)]
  have e0 : (E.put h.length W.heap.size len cap false).blk h.length = W.heap.size := if_pos rfl
  have hk : Holds (E.put h.length W.heap.size len cap false) h (W.alloc ob) := hh.keep hE hold
  refine ⟨Holds.snoc hk hnew (fun b blk' hb hlv _ _ he => ?_), ⟨hE, by simp, fun k hm => ?_, fun k hk _ => hold k hk, by simp, rfl, rfl, rfl⟩⟩
  · rw [e0, hE.blk _ (getElem?_lt hb)] at he
    rw [liveAt_agree hE (getElem?_lt hb)] at hlv
    have := (hh.ok b blk' hb).lt hlv
    omega
  · rcases hm.snoc with h1 | h1
    · exact .inl (h1.agree hE)
    · rw [e0] at h1; exact .inr (by omega)

section
variable {R : Type} {P : Program} {o : Oper} {ev : Operand → V} {h : List Blk} {K : KOp R}

/-! ### len -/
def aLen (P : Program) (t : TypeId) (x : V) (h : List Blk) (K : KOp R) : Option R := match P.underlying t with
  | some .string => match x with
    | .str s => K (.int .i64 (Int.ofNat (lenS s))) [] .none
    | _ => none
  | some (.array n _) => K (.int .i64 (Int.ofNat n)) [] .none
  | some (.slice _) => match x with
    | .gs b => match sliceRow (getB h b) with
      | some (sz, row) => K (.int .i64 (Int.ofNat (elemsN row.len sz))) [b] .none
      | none => none
    | .view _ _ _ len => K (.int .i64 (Int.ofNat len)) [] .none
    | .aslice _ _ len _ => K (.int .i64 (Int.ofNat len)) [] .none
    | .flat (.slice _ n _) => K (.int .i64 (Int.ofNat n)) [] .none
    | _ => none
  | _ => none
theorem run_len {c : Call} {t : TypeId} {x : Operand} (ho : o.op = .call c) (hc : c.callee = .builtin .len) (hx : c.args = #[x]) (ht : c.argTypes[0]? = some t) {a : Act} {W : World} {n : Nat}
    (hl : (match P.underlying t, a.eval x with
      | some .string, .string s => s.size = n
      | some (.array m _), _ => m = n
      | some (.slice _), .slice _ m _ => m = n
      | _, _ => False)) : (execOp a.eval o).run P W = .ok (.value (.int .i64 n)) W := by
  have hargs : c.args.map a.eval = #[a.eval x] := by rw [hx]; simp
  simp only [execOp, ho, resolve, hc, Sem.run_bind, Sem.run_pure, Result.andThen_ok, invoke, builtin, hargs, Builtin.len_, ht]
  split at hl
  · rename_i s hu hv
    simp [run_underlying hu, hv, hl, goInt]
  · rename_i m e hu
    simp [run_underlying hu, hl, goInt]
  · rename_i e a' m c' hu hv
    simp [run_underlying hu, hv, hl, goInt]
  · exact hl.elim
theorem ok_len {c : Call} {t : TypeId} {x : Operand} (ho : o.op = .call c) (hc : c.callee = .builtin .len) (hx : c.args = #[x]) (ht : c.argTypes[0]? = some t) : AopOk P o ev h (aLen P t (ev x) h K) K := by
  intro r hr
  have hvx : ∀ {n : Nat} {E : Env} {a : Act}, (∀ z ∈ o.op.operands, VR E n (ev z) (a.eval z)) → VR E n (ev x) (a.eval x) := fun hv => hv x (by
    rw [ho]; simp only [Op.operands, Call.operands, hc, hx]; simp)
  unfold aLen at hr
  split at hr
  · rename_i hu
    split at hr
    · rename_i s hs
      refine pureOk hr fun n E a W hv => ⟨_, VR.mkInt, ?_⟩
      have h0 := hvx hv
      rw [hs] at h0
      exact run_len ho hc hx ht (by rw [hu, h0.str]; exact lenS_eq s)
    · cases hr
  · rename_i n e hu
    refine pureOk hr fun n' E a W hv => ⟨_, VR.mkInt, ?_⟩
    exact run_len ho hc hx ht (by rw [hu])
  · rename_i e hu
    split at hr
    · rename_i b hb
      split at hr
      · rename_i sz row hsr
        refine ⟨_, [b], .none, hr, fun _ _ => rfl, fun h2 hs => OpSem.value fun E a W hh hv => ⟨_, VR.mkInt, ?_⟩⟩
        have h0 := hvx hv
        rw [hb] at h0
        have hne : getB h b ≠ .dead := fun e => by rw [e] at hsr; simp [sliceRow] at hsr
        have hb2 : h2[b]? = some (getB h b) := (hs b (by simp)).trans (getB_some rfl hne)
        obtain ⟨_, hz, hl, hcap, hnil, _⟩ := sliceRow_ok hsr (hh.ok b _ hb2)
        rw [elemsN_eq hz hl]
        refine run_len ho hc hx ht ?_
        rw [hu, (h0.val (by simp)).1, conc]
        cases hn : E.isnil b with
        | true =>
          have h1 := hnil hn
          rw [h1] at hl
          have : E.len b = 0 := by
            rcases Nat.mul_eq_zero.1 hl with h | h
            · exact h
            · omega
          simp [this]
        | false => simp
      · cases hr
    · rename_i b l sz len hb
      refine pureOk hr fun n' E a W hv => ⟨_, VR.mkInt, ?_⟩
      have h0 := hvx hv
      rw [hb] at h0
      refine run_len ho hc hx ht ?_
      rw [hu, (h0.val (by simp)).1, conc]
      cases hn : E.isnil b <;> simp
    · rename_i b off len cap hb
      refine pureOk hr fun n' E a W hv => ⟨_, VR.mkInt, ?_⟩
      have h0 := hvx hv
      rw [hb] at h0
      refine run_len ho hc hx ht ?_
      rw [hu, (h0.val (by simp)).1, conc]
    · rename_i ad n cp hb
      refine pureOk hr fun n' E a W hv => ⟨_, VR.mkInt, ?_⟩
      have h0 := hvx hv
      rw [hb] at h0
      refine run_len ho hc hx ht ?_
      rw [hu, (h0.val (by simp)).1, conc]
    · cases hr
  · cases hr

/-! ### literals -/
def fillV (place : Nat → Option (Nat × Nat)) (cells : List V) : List (Nat × V) → Option (List V)
  | [] => some cells
  | (i, v) :: rest => match place i with
    | none => none
    | some (off, size) => match wholeV v && Nat.beq (cellsV v).length size with
      | true => match spliceV cells off (cellsV v) with
        | some m => fillV place m rest
        | none => none
      | false => none
theorem zipIdx_foldl_splice (off : Nat) : ∀ (vs : List Value) (k : Nat) (cs : List Value), off + k + vs.length ≤ cs.length →
    (vs.zipIdx k).foldl (fun (cs : Array Value) (x : Value × Nat) => cs.setIfInBounds (off + x.2) x.1) cs.toArray = (splice cs (off + k) vs).toArray
  | [], k, cs, _ => by simp [splice_nil]
  | v :: r, k, cs, hl => by
    simp only [List.length_cons] at hl
    simp only [List.zipIdx_cons, List.foldl_cons, List.setIfInBounds_toArray]
    rw [zipIdx_foldl_splice off r (k + 1) (cs.set (off + k) v) (by simp; omega), splice_cons _ _ _ _ (by omega), show off + (k + 1) = off + k + 1 by omega]
theorem fill_ok {place : Nat → Option (Nat × Nat)} {E : Env} {n : Nat} {a : Act} : ∀ {parts : List (Nat × Operand)} {cells m : List V}, fillV place cells (parts.map fun x => (x.1, ev x.2)) = some m →
    (∀ x ∈ parts, VR E n (ev x.2) (a.eval x.2)) → inSs n cells = true →
    Instr.fill place (concs E cells).toArray (parts.map fun x => (x.1, a.eval x.2)) = some (concs E m).toArray ∧ inSs n m = true
  | [], cells, m, hf, _, hi => by
    simp only [List.map_nil, fillV, Option.some.injEq] at hf
    subst hf
    exact ⟨rfl, hi⟩
  | (i, x) :: parts, cells, m, hf, hv, hi => by
    simp only [List.map_cons, fillV] at hf
    split at hf
    · cases hf
    · rename_i off size hp
      split at hf
      · rename_i hw
        simp only [Bool.and_eq_true] at hw
        have hsz := Nat.eq_of_beq_eq_true hw.2
        split at hf
        · rename_i m' hm
          obtain ⟨h1, h2⟩ := spliceV_ok hm
          have hne : ev x ≠ .top := fun e => by rw [e] at hw; simp [wholeV] at hw
          obtain ⟨e1, e2⟩ := (hv (i, x) (by simp)).val hne
          have hi' : inSs n m' = true := by
            rw [h2]
            have hcs := cellsV_inS e2
            simp only [inSs_eq, List.all_eq_true] at *
            intro y hy
            simp only [splice, List.mem_append] at hy
            rcases hy with (hy | hy) | hy
            · exact hi y (List.mem_of_mem_take hy)
            · exact hcs y hy
            · exact hi y (List.mem_of_mem_drop hy)
          obtain ⟨h3, h4⟩ := fill_ok hf (fun z hz => hv z (by simp [hz])) hi'
          refine ⟨?_, h4⟩
          have hcl : (a.eval x).cells = (concs E (cellsV (ev x))).toArray := by
            apply Array.ext'; rw [e1]; simp [cellsV_conc hw.1]
          have hlen : (concs E (cellsV (ev x))).length = size := by rw [concs_eq, List.length_map]; exact hsz
          have hlc : (concs E cells).length = cells.length := by rw [concs_eq, List.length_map]
          simp only [List.map_cons, Instr.fill, hp, hcl]
          rw [if_neg (by simp only [List.size_toArray, hlen, hlc]; simp; omega)]
          have hz := zipIdx_foldl_splice off (concs E (cellsV (ev x))) 0 (concs E cells) (by rw [hlen, hlc]; omega)
          rw [Nat.add_zero] at hz
          rw [← h3]
          congr 1
          have : concs E m' = splice (concs E cells) off (concs E (cellsV (ev x))) := by rw [h2, concs_eq, concs_eq, concs_eq, splice_map]
          rw [this, ← hz]
          rw [← Array.foldl_toList]
          simp
        · cases hf
      · cases hf

def partsEv (ev : Operand → V) : List (Nat × Operand) → List (Nat × V)
  | [] => []
  | (i, x) :: r => (i, ev x) :: partsEv ev r
theorem partsEv_eq (l : List (Nat × Operand)) : partsEv ev l = l.map fun x => (x.1, ev x.2) := by
  induction l with
  | nil => rfl
  | cons v r ih => obtain ⟨i, x⟩ := v; simp [partsEv, ih]

def structPlaces (P : Program) : List Field → Option (List (Nat × Nat))
  | [] => some []
  | f :: r => match szT P f.type with
    | some n => match structPlaces P r with
      | some l => some ((f.offset, n) :: l)
      | none => none
    | none => none
theorem run_structPlaces : ∀ {fs : List Field} {l : List (Nat × Nat)}, structPlaces P fs = some l → ∀ W, (fs.mapM fun (f : Field) => (do pure (f.offset, ← sizeOf f.type) : Sem (Nat × Nat))).run P W = .ok l W
  | [], l, h, W => by simp only [structPlaces, Option.some.injEq] at h; subst h; rfl
  | f :: r, l, h, W => by
    simp only [structPlaces] at h
    split at h
    · rename_i n hn
      split at h
      · rename_i l' hl
        injection h with h
        subst h
        simp only [List.mapM_cons, Sem.run_bind, run_szT hn, Result.andThen_ok, Sem.run_pure, run_structPlaces hl W]
      · cases h
    · cases h
def aBuild (P : Program) (t : TypeId) (parts : List (Nat × V)) (K : KOp R) : Option R := match zeroOf P t with
  | none => none
  | some z => match P.underlying t with
    | some (.struct fs) => match structPlaces P fs.toList with
      | some pl => match fillV (fun i => pl[i]?) (zeroCells z) parts with
        | some m => K (.agg m) [] .none
        | none => none
      | none => none
    | some (.array _ e) => match szT P e with
      | some sz => match fillV (fun i => some (i * sz, sz)) (zeroCells z) parts with
        | some m => K (.agg m) [] .none
        | none => none
      | none => none
    | _ => none
theorem ok_build {t : TypeId} {ps : Array (Nat × Operand)} (ho : o.op = .build t ps) : AopOk P o ev h (aBuild P t (partsEv ev ps.toList) K) K := by
  intro r hr
  rw [partsEv_eq] at hr
  have hvp : ∀ {n : Nat} {E : Env} {a : Act}, (∀ z ∈ o.op.operands, VR E n (ev z) (a.eval z)) → ∀ x ∈ ps.toList, VR E n (ev x.2) (a.eval x.2) := fun hv x hx => hv x.2 (by
    rw [ho]; simp only [Op.operands]; simp only [List.mem_toArray, List.mem_map]; exact ⟨x, hx, rfl⟩)
  have hmap : ∀ {a : Act}, (ps.map fun (x : Nat × Operand) => (x.1, a.eval x.2)).toList = ps.toList.map fun x => (x.1, a.eval x.2) := fun {a} => by simp
  unfold aBuild at hr
  split at hr
  · cases hr
  · rename_i z hz
    split at hr
    · rename_i fs hu
      split at hr
      · rename_i pl hpl
        split at hr
        · rename_i m hm
          refine pureOk hr fun n E a W hv => ?_
          obtain ⟨h1, h2⟩ := fill_ok hm (hvp hv) (zeroCells_inS n z)
          rw [zeroCells_eq, Array.toArray_toList] at h1
          refine ⟨conc E (.agg m), VR.of (by simpa [inS] using h2), ?_⟩
          have hpm : (fs.mapM fun (f : Field) => (do pure (f.offset, ← sizeOf f.type) : Sem (Nat × Nat))).run P W = .ok pl.toArray W := by
            have : (fs.mapM fun (f : Field) => (do pure (f.offset, ← sizeOf f.type) : Sem (Nat × Nat))) = List.toArray <$> (fs.toList.mapM fun (f : Field) => (do pure (f.offset, ← sizeOf f.type) : Sem (Nat × Nat))) := by
              rw [← List.mapM_toArray, Array.toArray_toList]
            rw [this, Sem.run_map, run_structPlaces hpl W]
            rfl
          simp only [execOp, ho, Instr.build, Sem.run_bind, run_zeroOf hz, Result.andThen_ok, run_underlying hu, hpm]
          have hf : Instr.fill (fun x => pl.toArray[x]?) z.cells (ps.toList.map fun x => (x.1, a.eval x.2)) = some (concs E m).toArray := by simpa using h1
          rw [show (ps.map fun (x : Nat × Operand) => (x.1, a.eval x.2)).toList = ps.toList.map fun x => (x.1, a.eval x.2) from hmap]
          rw [hf]
          simp [conc]
        · cases hr
      · cases hr
    · rename_i len e hu
      split at hr
      · rename_i sz hsz
        split at hr
        · rename_i m hm
          refine pureOk hr fun n E a W hv => ?_
          obtain ⟨h1, h2⟩ := fill_ok hm (hvp hv) (zeroCells_inS n z)
          rw [zeroCells_eq, Array.toArray_toList] at h1
          refine ⟨conc E (.agg m), VR.of (by simpa [inS] using h2), ?_⟩
          simp only [execOp, ho, Instr.build, Sem.run_bind, run_zeroOf hz, Result.andThen_ok, run_underlying hu, run_szT hsz]
          rw [show (ps.map fun (x : Nat × Operand) => (x.1, a.eval x.2)).toList = ps.toList.map fun x => (x.1, a.eval x.2) from hmap]
          rw [h1]
          simp [conc]
        · cases hr
      · cases hr
    · cases hr

end
end Go.Eng
