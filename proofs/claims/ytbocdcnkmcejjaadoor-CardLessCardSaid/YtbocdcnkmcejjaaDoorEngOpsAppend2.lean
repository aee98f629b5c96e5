/- ENGINE, PART 5e: append; bytes and strings. -/
import Derived.Test.YtbocdcnkmcejjaaDoorEngOpsAppend
namespace Go.Eng
open Go

/-! ### rows put together -/
def intsVs (k : IntKind) : List V → Option (List Int)
  | [] => some []
  | .int k' n :: r => match decide (k = k') with
    | true => match intsVs k r with
      | some l => some (n :: l)
      | none => none
    | false => none
  | _ => none
theorem intsVs_ok {k : IntKind} : ∀ {l : List V} {m : List Int}, intsVs k l = some m → l = m.map (.int k)
  | [], m, h => by simp [intsVs] at h; subst h; rfl
  | v :: r, m, h => by
    cases v <;> simp only [intsVs] at h <;> try cases h
    split at h
    · rename_i hk
      simp only [decide_eq_true_eq] at hk
      subst hk
      split at h
      · rename_i l hl
        injection h with h
        subst h
        simp [intsVs_ok hl]
      · cases h
    · cases h
def strsVs : List V → Option (List ByteArray)
  | [] => some []
  | .str s :: r => match strsVs r with
    | some l => some (s :: l)
    | none => none
  | _ => none
theorem strsVs_ok : ∀ {l : List V} {m : List ByteArray}, strsVs l = some m → l = m.map .str
  | [], m, h => by simp [strsVs] at h; subst h; rfl
  | v :: r, m, h => by
    cases v <;> simp only [strsVs] at h <;> try cases h
    split at h
    · rename_i l hl
      injection h with h
      subst h
      simp [strsVs_ok hl]
    · cases h
/-- A row of whole numbers, or of strings, as such. -/
def tidyR : Row → Row
  | .vs l => match l with
    | .int k n :: q => match intsVs k (.int k n :: q) with
      | some z => .ints k z
      | none => .vs l
    | .str b :: q => match strsVs (.str b :: q) with
      | some z => .strs z
      | none => .vs l
    | l => .vs l
  | r => r
theorem tidyR_ok (r : Row) : (tidyR r).toVs = r.toVs := by
  cases r with
  | vs l =>
    cases l with
    | nil => rfl
    | cons v q =>
      cases v <;> try rfl
      · simp only [tidyR]
        split
        · rename_i z hz; simp only [Row.toVs]; rw [← intsVs_ok hz]
        · rfl
      · simp only [tidyR]
        split
        · rename_i z hz; simp only [Row.toVs]; rw [← strsVs_ok hz]
        · rfl
  | _ => rfl
def rowApp : Row → Row → Option Row
  | .vs [], r => some (tidyR r)
  | .vs (v :: a), .vs b => some (.vs (appV (v :: a) b))
  | .vs (v :: a), .ints k b => match intsVs k (v :: a) with
    | some l => some (.ints k (l ++ b))
    | none => none
  | .vs (v :: a), .strs b => match strsVs (v :: a) with
    | some l => some (.strs (l ++ b))
    | none => none
  | .ints k a, .ints k' b => match decide (k = k') with
    | true => some (.ints k (a ++ b))
    | false => none
  | .ints k a, .vs b => match intsVs k b with
    | some l => some (.ints k (a ++ l))
    | none => none
  | .strs a, .strs b => some (.strs (a ++ b))
  | .strs a, .vs b => match strsVs b with
    | some l => some (.strs (a ++ l))
    | none => none
  | _, _ => none
theorem rowApp_ok {a b r : Row} (h : rowApp a b = some r) : r.toVs = a.toVs ++ b.toVs := by
  unfold rowApp at h
  split at h
  · injection h with h; subst h; rw [tidyR_ok]; rfl
  · injection h with h; subst h; simp [Row.toVs, appV_eq]
  · split at h
    · rename_i l hl; injection h with h; subst h; simp only [Row.toVs, List.map_append]; rw [← intsVs_ok hl]
    · cases h
  · split at h
    · rename_i l hl; injection h with h; subst h; simp only [Row.toVs, List.map_append]; rw [← strsVs_ok hl]
    · cases h
  · split at h
    · rename_i hk; simp only [decide_eq_true_eq] at hk; subst hk; injection h with h; subst h; simp [Row.toVs]
    · cases h
  · split at h
    · rename_i l hl; injection h with h; subst h; simp only [Row.toVs, List.map_append]; rw [← intsVs_ok hl]
    · cases h
  · injection h with h; subst h; simp [Row.toVs]
  · split at h
    · rename_i l hl; injection h with h; subst h; simp only [Row.toVs, List.map_append]; rw [← strsVs_ok hl]
    · cases h
  · cases h

def allOne : List V → Bool
  | [] => true
  | v :: r => oneV v && allOne r
theorem allOne_mem : ∀ {l : List V}, allOne l = true → ∀ v ∈ l, oneV v = true
  | [], _, v, hv => by cases hv
  | u :: r, h, v, hv => by
    simp only [allOne, Bool.and_eq_true] at h
    rcases List.mem_cons.1 hv with rfl | hv
    · exact h.1
    · exact allOne_mem h.2 v hv
def rowOne : Row → Bool
  | .vs l => allOne l
  | _ => true
theorem rowOne_conc {E : Env} {row : Row} (h : rowOne row = true) : ∀ v ∈ concs E row.toVs, v.oneCell' = true := fun v hv => by
  rw [concs_eq] at hv
  obtain ⟨u, hu, rfl⟩ := List.mem_map.1 hv
  refine oneV_conc ?_
  cases row with
  | vs l => exact allOne_mem h u hu
  | ints k l => simp only [Row.toVs, List.mem_map] at hu; obtain ⟨n, _, rfl⟩ := hu; rfl
  | strs l => simp only [Row.toVs, List.mem_map] at hu; obtain ⟨n, _, rfl⟩ := hu; rfl

/-- A part of a row. -/
def rowSub (row : Row) (a n : Nat) : Option Row := match row with
  | .vs l => match takeV l a n with
    | some m => some (.vs m)
    | none => none
  | .ints k l => some (.ints k ((l.drop a).take n))
  | .strs l => some (.strs ((l.drop a).take n))
theorem rowSub_ok {row r : Row} {a n : Nat} (h : rowSub row a n = some r) : r.toVs = (row.toVs.drop a).take n := by
  unfold rowSub at h
  split at h
  · split at h
    · rename_i l m hm; injection h with h; subst h; exact (takeV_eq hm).2
    · cases h
  · injection h with h; subst h; simp [Row.toVs, List.map_take, List.map_drop]
  · injection h with h; subst h; simp [Row.toVs, List.map_take, List.map_drop]

def bytesI (s : ByteArray) : List Int := s.data.toList.map fun b => (b.toNat : Int)

section
variable {R : Type} {P : Program} {o : Oper} {ev : Operand → V} {h : List Blk} {K : KOp R}

/-- The cells of a slice or a string that is read as a whole. -/
def srcK (x : V) (sz : Nat) (h : List Blk) (K : Row → Option R) : Option R := match x with
  | .gs b => match sliceRow (getB h b) with
    | some (sz', row) => match Nat.beq sz' sz with
      | true => K row
      | false => none
    | none => none
  | .view b l sz2 len => match sliceRow (getB h b) with
    | some (sz', row) => match Nat.beq sz' sz && Nat.beq sz2 sz with
      | true => cond (decide (l + len ≤ elemsN row.len sz)) (match rowSub row (mulS l sz) (mulS len sz) with
          | some r => K r
          | none => none) none
      | false => none
    | none => none
  | .aslice b off len _ => match getB h b with
    | .own _ row => match rowSub row off (mulS len sz) with
      | some r => cond (decide (off + mulS len sz ≤ row.len)) (K r) none
      | none => none
    | _ => none
  | .flat (.slice _ 0 0) => K (.vs [])
  | .str s => match Nat.beq sz 1 with
    | true => K (.ints .u8 (bytesI s))
    | false => none
  | _ => none
theorem srcK_ok {x : V} {sz : Nat} {Ks : Row → Option R} {r : R} (hsz : 0 < sz) (hr : srcK x sz h Ks = some r) : ∃ row, Ks row = some r ∧
    ∀ (E : Env) (W : World), Holds E h W → ∀ y, VR E h.length x y → inSs h.length row.toVs = true ∧ ∃ n, n * sz = row.toVs.length ∧ (∀ W0, (Builtin.lenOf y).run P W0 = .ok n W0) ∧
      (∀ W', Holds E h W' → (Builtin.firstCells sz n y).run P W' = .ok (concs E row.toVs).toArray W') := by
  have loadOk : ∀ {E : Env} {W : World} {ad : Addr} {l : List V}, (∀ j v, l[j]? = some v → W.cell? (ad.add j) = some (conc E v)) → (loadCells ad l.length).run P W = .ok (concs E l).toArray W := fun {E W ad l} hc => by
    have := run_loadCells_list (P := P) W ad (concs E l) (fun j v hv => by
      rw [concs_eq, List.getElem?_map] at hv
      cases hj : l[j]? with
      | none => rw [hj] at hv; cases hv
      | some u => rw [hj] at hv; injection hv with hv; rw [← hv]; exact hc j u hj)
    rwa [concs_eq, List.length_map, ← concs_eq] at this
  unfold srcK at hr
  split at hr
  · rename_i b
    split at hr
    · rename_i sz' row hsr
      split at hr
      · rename_i hq
        have := Nat.eq_of_beq_eq_true hq
        subst this
        refine ⟨row, hr, fun E W hh y hy => ?_⟩
        have hne : getB h b ≠ .dead := fun e => by rw [e] at hsr; simp [sliceRow] at hsr
        have hb := getB_some rfl hne
        obtain ⟨hrow, hz, hl, hcap, hnil, _⟩ := sliceRow_ok hsr (hh.ok b _ hb)
        have hin : inSs h.length row.toVs = true := by
          rw [inSs_eq, List.all_eq_true]
          intro v hv
          obtain ⟨i, hi⟩ := List.getElem?_of_mem hv
          exact (hh.cell hb (by rw [hrow]; exact hi)).2
        rw [Row.len_eq] at hl hnil
        refine ⟨hin, E.len b, hl, fun W0 => ?_, fun W' hh' => ?_⟩
        · rw [(hy.val (by simp)).1, conc]
          cases hn : E.isnil b with
          | true =>
            have h3 := hnil hn
            rw [h3] at hl
            have : E.len b = 0 := by
              rcases Nat.mul_eq_zero.1 hl with h | h
              · exact h
              · omega
            simp [Builtin.lenOf, this]
          | false => simp [Builtin.lenOf]
        · rw [(hy.val (by simp)).1, conc]
          cases hn : E.isnil b with
          | true =>
            have h3 := hnil hn
            have h4 : row.toVs = [] := List.eq_nil_of_length_eq_zero h3
            rw [h3] at hl
            have : E.len b = 0 := by
              rcases Nat.mul_eq_zero.1 hl with h | h
              · exact h
              · omega
            rw [this, h4]
            simp only [cond_true]
            cases E.base b <;> simp [Builtin.firstCells, concs, loadCells, loadCellsFrom]
          | false =>
            simp only [cond_false, Builtin.firstCells]
            rw [hl]
            exact loadOk fun j v hj => by
              rw [Addr_add_lit]
              exact (hh'.cell hb (by rw [hrow]; exact hj)).1
      · cases hr
    · cases hr
  · rename_i b l sz2 len
    split at hr
    · rename_i sz' row hsr
      split at hr
      · rename_i hq
        simp only [Bool.and_eq_true] at hq
        have q1 := Nat.eq_of_beq_eq_true hq.1
        have q2 := Nat.eq_of_beq_eq_true hq.2
        subst q1
        subst q2
        cases hcd : decide (l + len ≤ elemsN row.len sz2) with
        | false => rw [hcd, cond_false] at hr; cases hr
        | true =>
          rw [hcd, cond_true] at hr
          simp only [decide_eq_true_eq] at hcd
          split at hr
          · rename_i rr hrr
            have hsub := rowSub_ok hrr
            rw [mulS_eq, mulS_eq] at hsub
            refine ⟨rr, hr, fun E W hh y hy => ?_⟩
            have hne : getB h b ≠ .dead := fun e => by rw [e] at hsr; simp [sliceRow] at hsr
            have hb := getB_some rfl hne
            obtain ⟨hrow, hz, hl, hcap, hnil, _⟩ := sliceRow_ok hsr (hh.ok b _ hb)
            rw [elemsN_eq hz hl] at hcd
            rw [Row.len_eq] at hl hnil
            have hfit : l * sz2 + len * sz2 ≤ row.toVs.length := by rw [← hl, ← Nat.add_mul]; exact Nat.mul_le_mul_right _ hcd
            have hlen : rr.toVs.length = len * sz2 := by rw [hsub]; simp; omega
            have hget : ∀ j v, rr.toVs[j]? = some v → row.toVs[l * sz2 + j]? = some v := fun j v hj => by
              rw [hsub, List.getElem?_take] at hj
              split at hj
              · rw [List.getElem?_drop] at hj; exact hj
              · cases hj
            have hin : inSs h.length rr.toVs = true := by
              rw [inSs_eq, List.all_eq_true]
              intro v hv
              obtain ⟨i, hi⟩ := List.getElem?_of_mem hv
              exact (hh.cell hb (by rw [hrow]; exact hget i v hi)).2
            refine ⟨hin, len, hlen.symm, fun W0 => ?_, fun W' hh' => ?_⟩
            · rw [(hy.val (by simp)).1, conc]
              cases hn : E.isnil b <;> simp [Builtin.lenOf]
            · rw [(hy.val (by simp)).1, conc]
              by_cases hl0 : len = 0
              · subst hl0
                have h4 : rr.toVs = [] := List.eq_nil_of_length_eq_zero (by rw [hlen]; simp)
                rw [h4]
                cases hn : E.isnil b with
                | true => simp only [cond_true]; cases E.base b <;> simp [Builtin.firstCells, concs, loadCells, loadCellsFrom]
                | false => simp only [cond_false, Builtin.firstCells]; simp [concs, loadCells, loadCellsFrom]
              · have hn : E.isnil b = false := by
                  cases hxx : E.isnil b with
                  | false => rfl
                  | true =>
                    have h3 := hnil hxx
                    rw [h3] at hl
                    have : E.len b = 0 := by
                      rcases Nat.mul_eq_zero.1 hl with h | h
                      · exact h
                      · omega
                    omega
                have hcl : ¬ E.cap b = l := by omega
                simp only [hn, cond_false, if_neg hcl, Builtin.firstCells]
                rw [← hlen]
                exact loadOk fun j v hj => by
                  rw [Addr_add_lit, Nat.add_assoc]
                  exact (hh'.cell hb (by rw [hrow]; exact hget j v hj)).1
          · cases hr
      · cases hr
    · cases hr
  · rename_i b off len cap
    split at hr
    · rename_i ty row hblk
      split at hr
      · rename_i rr hrr
        cases hcd : decide (off + mulS len sz ≤ row.len) with
        | false => rw [hcd, cond_false] at hr; cases hr
        | true =>
          rw [hcd, cond_true] at hr
          simp only [decide_eq_true_eq, mulS_eq] at hcd
          have hsub := rowSub_ok hrr
          rw [mulS_eq] at hsub
          refine ⟨rr, hr, fun E W hh y hy => ?_⟩
          have hb := getB_some hblk (by simp)
          rw [Row.len_eq] at hcd
          have hlen : rr.toVs.length = len * sz := by rw [hsub]; simp; omega
          have hget : ∀ j v, rr.toVs[j]? = some v → row.toVs[off + j]? = some v := fun j v hj => by
            rw [hsub, List.getElem?_take] at hj
            split at hj
            · rw [List.getElem?_drop] at hj; exact hj
            · cases hj
          have hin : inSs h.length rr.toVs = true := by
            rw [inSs_eq, List.all_eq_true]
            intro v hv
            obtain ⟨i, hi⟩ := List.getElem?_of_mem hv
            exact (hh.cell hb (hget i v hi)).2
          refine ⟨hin, len, hlen.symm, fun W0 => ?_, fun W' hh' => ?_⟩
          · rw [(hy.val (by simp)).1, conc]; simp [Builtin.lenOf]
          · rw [(hy.val (by simp)).1, conc]
            simp only [Builtin.firstCells]
            rw [← hlen]
            exact loadOk fun j v hj => by
              rw [Addr_add_lit, Nat.add_assoc]
              exact (hh'.cell hb (hget j v hj)).1
      · cases hr
    · cases hr
  · rename_i ba
    refine ⟨.vs [], hr, fun E W hh y hy => ⟨rfl, 0, by simp [Row.toVs], fun W0 => ?_, fun W' _ => ?_⟩⟩
    · rw [(hy.val (by simp)).1, conc]; simp [Builtin.lenOf]
    · rw [(hy.val (by simp)).1, conc]
      cases ba <;> simp [Builtin.firstCells, Row.toVs, concs, loadCells, loadCellsFrom]
  · rename_i s
    split at hr
    · rename_i hq
      have := Nat.eq_of_beq_eq_true hq
      subst this
      refine ⟨_, hr, fun E W hh y hy => ⟨?_, s.size, ?_, fun W0 => ?_, fun W' _ => ?_⟩⟩
      · rw [inSs_eq, List.all_eq_true]; intro v hv; simp only [Row.toVs, List.mem_map] at hv; obtain ⟨n, _, rfl⟩ := hv; simp [inS]
      · simp [Row.toVs, bytesI]
      · rw [hy.str]; simp [Builtin.lenOf]
      · rw [hy.str]
        simp only [Builtin.firstCells, Sem.run_pure]
        congr 1
        rw [extS_eq]
        apply Array.ext'
        simp only [extS, List.drop_zero, Nat.sub_zero, Row.toVs, bytesI, concs_eq, List.map_map]
        rw [lenS_eq, lenS, List.take_length]
        simp [conc, Function.comp_def]
    · cases hr
  · cases hr

/-! ### append -/
theorem growBy_le (need : Nat) : ∀ (r c : Nat), c < need → Builtin.growBy need r c ≤ 2 * need + 512
  | 0, c, h => by simp [Builtin.growBy]; omega
  | r + 1, c, h => by
    simp only [Builtin.growBy]
    rw [if_neg (by omega)]
    by_cases h2 : c + (c + 768) / 4 < need
    · exact growBy_le need r _ h2
    · have : Builtin.growBy need r (c + (c + 768) / 4) = c + (c + 768) / 4 := by
        cases r with
        | zero => rfl
        | succ r => simp only [Builtin.growBy]; rw [if_pos (by omega)]
      rw [this]; omega
theorem nextslicecap_le {need cap : Nat} (h : cap < need) : Builtin.nextslicecap need cap ≤ 2 * need + 512 := by
  unfold Builtin.nextslicecap
  split
  · omega
  · split
    · omega
    · exact growBy_le need 4 cap h

def Env.putA (E : Env) (n k len cap : Nat) (nil : Bool) (ba : Option Addr) : Env :=
  { blk := fun b => if b = n then k else E.blk b, delta := fun b => if b = n then 0 else E.delta b, len := fun b => if b = n then len else E.len b,
    cap := fun b => if b = n then cap else E.cap b, isnil := fun b => if b = n then nil else E.isnil b, base := fun b => if b = n then ba else E.base b }
theorem Agree.putA (E : Env) (n k len cap : Nat) (nil : Bool) (ba : Option Addr) : Agree n E (E.putA n k len cap nil ba) :=
  ⟨fun b hb => if_neg (by omega), fun b hb => if_neg (by omega), fun b hb => if_neg (by omega), fun b hb => if_neg (by omega), fun b hb => if_neg (by omega), fun b hb => if_neg (by omega)⟩

/-- What is appended to: a row of ours, or nothing yet. -/
inductive Dest (E : Env) (h : List Blk) (e sz : Nat) (row : Row) : Bool → V → List Blk → Prop
  | nil (ba : Option Addr) : row = .vs [] → Dest E h e sz row false (.flat (.slice ba 0 0)) h
  | own (b : Nat) (nn : Bool) : h[b]? = some (.grow nn e sz row) → Dest E h e sz row nn (.gs b) (setB h b .dead)
def destOf (x : V) (e sz : Nat) (h : List Blk) : Option (Bool × Row × List Blk) := match x with
  | .flat (.slice _ 0 0) => some (false, .vs [], h)
  | .gs b => match getB h b with
    | .grow nn e' sz' row => match Nat.beq e' e && Nat.beq sz' sz with
      | true => some (nn, row, setB h b .dead)
      | false => none
    | _ => none
  | _ => none
theorem destOf_ok {x : V} {e sz : Nat} {row : Row} {h' : List Blk} {nn : Bool} (hd : destOf x e sz h = some (nn, row, h')) (E : Env) : Dest E h e sz row nn x h' := by
  unfold destOf at hd
  split at hd
  · simp only [Option.some.injEq, Prod.mk.injEq] at hd; obtain ⟨rfl, rfl, rfl⟩ := hd; exact .nil _ rfl
  · rename_i b
    split at hd
    · rename_i nn' e' sz' row' hb
      split at hd
      · rename_i hq
        simp only [Bool.and_eq_true] at hq
        have q1 := Nat.eq_of_beq_eq_true hq.1
        have q2 := Nat.eq_of_beq_eq_true hq.2
        subst q1; subst q2
        simp only [Option.some.injEq, Prod.mk.injEq] at hd
        obtain ⟨rfl, rfl, rfl⟩ := hd
        exact .own b _ (getB_some hb (by simp))
      · cases hd
    · cases hd
  · cases hd

def aAppend (P : Program) (t u : TypeId) (s x : V) (h : List Blk) (K : KOp R) : Option R := match P.underlying t with
  | some (.slice e) => match P.info? e with
    | some i => match i.zero with
      | some z => match Nat.beq z.cells.size i.size && Nat.ble 1 i.size && Nat.ble i.bytes 1048576 with
        | true => match P.underlying u with
          | some (.int _) => none
          | some _ => match destOf s e i.size h with
            | some (nn, row, h') => srcK x i.size h (fun row2 => match rowApp row row2, rowOne row2 with
              | some row', true => cond (decide (elemsN row'.len i.size * (i.bytes + 1) ≤ 70368744177664))
                  (K (.gs h.length) [] (.all (appB h' (.grow nn e i.size row')))) none
              | _, _ => none)
            | none => none
          | none => none
        | false => none
      | none => none
    | none => none
  | _ => none
where appB (l : List Blk) (b : Blk) : List Blk := match l with
  | [] => [b]
  | x :: r => x :: appB r b
theorem appB_eq (l : List Blk) (b : Blk) : aAppend.appB l b = l ++ [b] := by
  induction l with
  | nil => rfl
  | cons x r ih => simp [aAppend.appB, ih]

theorem Holds.snocA {E : Env} {h1 : List Blk} {W : World} (hh : Holds E h1 W) (k len cap : Nat) (nil : Bool) (ba : Option Addr) {nn : Bool} {e sz : Nat} {row : Row}
    (hnew : BlkOk (E.putA h1.length k len cap nil ba) (h1.length + 1) W h1.length (.grow nn e sz row)) (hk : nil = false → ∀ b x, h1[b]? = some x → liveAt E b x = true → E.blk b ≠ k) :
    Holds (E.putA h1.length k len cap nil ba) (h1 ++ [.grow nn e sz row]) W := by
  have hE := Agree.putA E h1.length k len cap nil ba
  refine Holds.snoc (hh.keep hE fun _ _ => rfl) hnew (fun b x hb hl hl' _ he => ?_)
  have hn : nil = false := by simpa [liveAt, Env.putA] using hl'
  rw [hE.blk _ (getElem?_lt hb)] at he
  rw [liveAt_agree hE (getElem?_lt hb)] at hl
  exact hk hn b x hb hl (by simpa [Env.putA] using he)
theorem Holds.other {E : Env} {h1 : List Blk} {W W' : World} {k0 : Nat} (hh : Holds E h1 W) (hk : ∀ b x, h1[b]? = some x → liveAt E b x = true → E.blk b ≠ k0) (hW : ∀ k, k ≠ k0 → W'.heap[k]? = W.heap[k]?) : Holds E h1 W' := by
  refine ⟨fun b x hb => ?_, hh.inj⟩
  cases hl : liveAt E b x with
  | true => exact (hh.ok b x hb).frame (getElem?_lt hb) (Agree.refl _ _) (Nat.le_refl _) (fun o ho => by rw [hW _ (hk b x hb hl)]; exact ho)
  | false => exact (hh.ok b x hb).absent (getElem?_lt hb) (Agree.refl _ _) (Nat.le_refl _) hl
theorem kill_live {E : Env} {h : List Blk} {W : World} (hh : Holds E h W) {b : Nat} {blk : Blk} (hb : h[b]? = some blk) (hm : blk.mine = true) (hl : liveAt E b blk = true) :
    ∀ b' x, (setB h b .dead)[b']? = some x → liveAt E b' x = true → E.blk b' ≠ E.blk b := fun b' x hx hlx he => by
  rw [setB_eq] at hx
  by_cases hbb : b' = b
  · subst hbb
    rw [List.getElem?_set_self (getElem?_lt hb)] at hx
    injection hx with hx
    subst hx
    simp [liveAt] at hlx
  · rw [List.getElem?_set_ne (Ne.symm hbb)] at hx
    exact hbb (hh.inj b b' blk x hb hx hm hl hlx he.symm).symm
theorem model_zero_size (z : Array Value) (n : Nat) : (Builtin.zeroCells z n).size = n * z.size := by simp [Builtin.zeroCells]

theorem app_none {E : Env} {hx h' : List Blk} {W : World} (hk : Holds E h' W ∧ Trans E hx W E h' W) (hlen : h'.length = hx.length) {e sz : Nat} (hz : 0 < sz) {row' : Row} (hr : row'.toVs = []) (ba : Option Addr) :
    Holds (E.putA h'.length 0 0 0 true ba) (h' ++ [.grow false e sz row']) W ∧ Trans E hx W (E.putA h'.length 0 0 0 true ba) (h' ++ [.grow false e sz row']) W := by
  have hr0 : row'.len = 0 := by rw [Row.len_eq, hr]; rfl
  have hE := Agree.putA E h'.length 0 0 0 true ba
  refine ⟨hk.1.snocA _ _ _ _ _ ⟨by simp [Env.putA], by rw [hr]; rfl, hz, by simp [Env.putA, hr0], by simp [Env.putA], fun _ => ⟨hr0, rfl⟩, fun hf => ?_⟩ (fun hf => by cases hf), ?_⟩
  · simp [Env.putA] at hf
  · refine ⟨by rw [← hlen]; exact hE, by simp; omega, fun k hkm => ?_, fun _ _ _ => rfl, Nat.le_refl _, rfl, rfl, rfl⟩
    obtain ⟨b, x, hb1, hm1, hl1, he1⟩ := hkm
    rcases getElem?_snoc hb1 with hb1 | ⟨q1, q2⟩
    · have hlt := getElem?_lt hb1
      rw [liveAt_agree hE hlt] at hl1
      rw [hE.blk _ hlt] at he1
      exact hk.2.mine k ⟨b, x, hb1, hm1, hl1, he1⟩
    · subst q1; subst q2; simp [liveAt, Env.putA] at hl1

theorem app_fit {E : Env} {hx : List Blk} {W : World} (hh : Holds E hx W) {b e sz n : Nat} {nn : Bool} {row row2 row' : Row} (hbk : hx[b]? = some (.grow nn e sz row)) (hnn : E.isnil b = false)
    (hvs : row'.toVs = row.toVs ++ row2.toVs) (hn : n * sz = row2.toVs.length) (hfit : E.len b + n ≤ E.cap b) (hone : ∀ v ∈ concs E row2.toVs, v.oneCell' = true) (hin : inSs hx.length row'.toVs = true) :
    ∃ W', (storeCells ⟨E.blk b, E.delta b + E.len b * sz, none⟩ (concs E row2.toVs)).run P W = .ok () W' ∧
      Holds (E.putA hx.length (E.blk b) (E.len b + n) (E.cap b) false none) (setB hx b .dead ++ [.grow nn e sz row']) W' ∧
      Trans E hx W (E.putA hx.length (E.blk b) (E.len b + n) (E.cap b) false none) (setB hx b .dead ++ [.grow nn e sz row']) W' := by
  obtain ⟨hd0, hs0, hz0, hl0, hc0, hnil0, hcells⟩ := hh.ok b _ hbk
  obtain ⟨fz, spare, hfz, hsp, hcc⟩ := hcells hnn
  rw [Row.len_eq] at hl0 hfz hsp
  have hlb : liveAt E b (.grow nn e sz row) = true := by simp [liveAt, hnn]
  have hc2 : (concs E row2.toVs).length = n * sz := by rw [concs_eq, List.length_map, hn]
  have hcr : (concs E row.toVs).length = E.len b * sz := by rw [concs_eq, List.length_map, hl0]
  have hroom : E.len b * sz + n * sz ≤ (concs E row.toVs ++ spare).length := by
    rw [List.length_append, hcr, ← Nat.add_mul]
    have : (E.len b + n) * sz ≤ E.cap b * sz := Nat.mul_le_mul_right _ hfit
    rw [← hsp, ← hl0] at this
    exact this
  have hroom' : n * sz ≤ spare.length := by rw [List.length_append, hcr] at hroom; omega
  have hstore := run_storeCells_any (P := P) (E.blk b) (E.len b * sz) e fz (concs E row2.toVs) 0 (concs E row.toVs ++ spare) W hcc
    (fun k hk => hfz k (by rw [hc2] at hk; rw [← hl0]; omega)) (by rw [hc2]; omega) hone
  have hsplice : splice (concs E row.toVs ++ spare) (E.len b * sz + 0) (concs E row2.toVs) = concs E row'.toVs ++ spare.drop (n * sz) := by
    unfold splice
    rw [Nat.add_zero, ← hcr, List.take_left', hvs, concs_append, hc2]
    · rw [List.drop_append, List.drop_eq_nil_of_le (by omega)]
      simp
    · rfl
  rw [hsplice] at hstore
  have hkill := hh.kill b
  have hlive := kill_live hh hbk rfl hlb
  have hother : Holds E (setB hx b .dead) (World.putObj W (E.blk b) (.cells (concs E row'.toVs ++ spare.drop (n * sz)).toArray e fz)) :=
    hkill.1.other hlive (fun k hk => putObj_get (Ne.symm hk))
  have hlenk : (setB hx b .dead).length = hx.length := setB_len _ _ _
  have hrl : row'.len = (E.len b + n) * sz := by rw [Row.len_eq, hvs, List.length_append, ← hl0, ← hn, Nat.add_mul]
  have hE : Agree hx.length E (E.putA hx.length (E.blk b) (E.len b + n) (E.cap b) false none) := Agree.putA _ _ _ _ _ _ _
  refine ⟨_, by rw [hd0, Nat.zero_add]; exact hstore, ?_, ?_⟩
  · have := hother.snocA (E.blk b) (E.len b + n) (E.cap b) false none (nn := nn) (e := e) (sz := sz) (row := row') (by
      rw [hlenk]
      refine ⟨by simp [Env.putA], inSs_mono (Nat.le_succ _) _ hin, hz0, by simp [Env.putA, hrl], by simp [Env.putA, hfit], fun h => by simp [Env.putA] at h, fun _ => ⟨fz, spare.drop (n * sz), fun k hk => hfz k ?_, ?_, ?_⟩⟩
      · rw [hrl, List.length_drop] at hk; rw [← hl0]; rw [Nat.add_mul] at hk; omega
      · simp only [Env.putA, if_true]; rw [hrl, List.length_drop, ← hsp, ← hl0, Nat.add_mul]; omega
      · simp only [Env.putA, if_true]
        rw [putObj_self (Array.getElem?_eq_some_iff.1 hcc).1]
        congr 3
        congr 1
        exact (concs_agree hE _ hin).symm) (fun _ b' x hb' hl' => hlive b' x hb' hl')
    rwa [hlenk] at this
  · refine ⟨hE, by rw [List.length_append, hlenk]; omega, fun k hkm => ?_, fun k hk hn => ?_, by simp, rfl, rfl, rfl⟩
    · obtain ⟨b', x, hb1, hm1, hl1, he1⟩ := hkm
      rcases getElem?_snoc hb1 with hb1 | ⟨q1, q2⟩
      · have hlt := getElem?_lt hb1
        rw [hlenk] at hlt
        rw [liveAt_agree hE hlt] at hl1
        rw [hE.blk _ hlt] at he1
        exact hkill.2.mine k ⟨b', x, hb1, hm1, hl1, he1⟩
      · rw [hlenk] at q1
        subst q1
        simp only [Env.putA, if_true] at he1
        exact .inl ⟨b, _, hbk, rfl, hlb, he1⟩
    · exact putObj_get (fun he => hn ⟨b, _, hbk, rfl, hlb, he⟩)

theorem app_grow {E : Env} {hx h' : List Blk} {W : World} (hk : Holds E h' W ∧ Trans E hx W E h' W) (hlen : h'.length = hx.length) {e sz need cap : Nat} (hz : 0 < sz) {row' : Row} (nn : Bool) (hrl : need * sz = row'.len) (hcap : need ≤ cap)
    (hin : inSs hx.length row'.toVs = true) (rest : List Value) (hrest : rest.length = (cap - need) * sz) :
    Holds (E.putA h'.length W.heap.size need cap false none) (h' ++ [.grow nn e sz row']) (W.drew.alloc (.cells (concs E row'.toVs ++ rest).toArray e)) ∧
    Trans E hx W (E.putA h'.length W.heap.size need cap false none) (h' ++ [.grow nn e sz row']) (W.drew.alloc (.cells (concs E row'.toVs ++ rest).toArray e)) := by
  have hE := Agree.putA E h'.length W.heap.size need cap false none
  have hold : ∀ k, k < W.heap.size → (W.drew.alloc (.cells (concs E row'.toVs ++ rest).toArray e)).heap[k]? = W.heap[k]? := fun k hk => by
    show (W.heap.push _)[k]? = _
    rw [Array.getElem?_push, if_neg (by omega)]
  have hk1 : Holds E h' (W.drew.alloc (.cells (concs E row'.toVs ++ rest).toArray e)) := hk.1.keep (Agree.refl _ _) hold
  refine ⟨hk1.snocA _ _ _ _ _ ⟨by simp [Env.putA], by rw [hlen]; exact inSs_mono (Nat.le_succ _) _ hin, hz, by simp [Env.putA, hrl], by simp [Env.putA, hcap], fun h => by simp [Env.putA] at h, fun _ => ⟨(0, 0), rest, fun o _ hx => Nat.not_lt_zero _ hx.2, ?_, ?_⟩⟩ (fun _ b x hb hl => ?_), ?_⟩
  · simp only [Env.putA, if_true]; rw [hrest, ← hrl, ← Nat.add_mul]; congr 1; omega
  · rw [show concs (E.putA h'.length W.heap.size need cap false none) row'.toVs = concs E row'.toVs from concs_agree hE _ (by rw [hlen]; exact hin)]
    simp only [Env.putA, if_true]
    show (W.heap.push _)[W.heap.size]? = _
    simp
  · have := (hk.1.ok b x hb).lt hl; omega
  · refine ⟨by rw [← hlen]; exact hE, by rw [List.length_append, hlen]; omega, fun k hkm => ?_, fun k hk _ => hold k hk, by simp, rfl, rfl, rfl⟩
    obtain ⟨b', x, hb1, hm1, hl1, he1⟩ := hkm
    rcases getElem?_snoc hb1 with hb1 | ⟨q1, q2⟩
    · have hlt := getElem?_lt hb1
      rw [liveAt_agree hE hlt] at hl1
      rw [hE.blk _ hlt] at he1
      exact hk.2.mine k ⟨b', x, hb1, hm1, hl1, he1⟩
    · subst q1
      simp only [Env.putA, if_true] at he1
      exact .inr (by omega)

theorem run_append_room {W W' : World} {at_ : Array TypeId} {ty t u e : TypeId} {i : TypeInfo} {du : TypeDesc} (ht : at_[0]? = some t) (hu : at_[1]? = some u) (hte : P.underlying t = some (.slice e)) (hi : P.info? e = some i) (hni : ∀ k, du ≠ .int k) (hud : P.underlying u = some du)
    {ba : Option Addr} {sLen sCap n : Nat} {x : Value} {cs : List Value} (hlen : (Builtin.lenOf x).run P W = .ok n W) (hf : (Builtin.firstCells i.size n x).run P W = .ok cs.toArray W) (hfit : sLen + n ≤ sCap)
    (hst : match ba with
      | some a => (storeCells (a.add (sLen * i.size)) cs).run P W = .ok () W'
      | none => W' = W) :
    (Builtin.append_ at_ ty #[.slice ba sLen sCap, x]).run P W = .ok (.slice ba (sLen + n) sCap) W' := by
  have hsz : szT P e = some i.size := by simp [szT, hi]
  cases du
  case int k => exact absurd rfl (hni k)
  all_goals
    unfold Builtin.append_
    simp only [ht, hu, List.getElem?_toArray, List.getElem?_cons_zero, List.getElem?_cons_succ, Sem.run_bind, run_underlying hte, Result.andThen_ok, run_szT hsz, run_underlying hud, Sem.run_pure, Bool.false_eq_true, if_false, hlen, hfit, if_true, Bool.not_false, hf]
    cases ba with
    | none => simp only at hst; subst hst; simp
    | some a => simp only at hst; simp [hst]

theorem run_append_more {W : World} {at_ : Array TypeId} {ty t u e : TypeId} {i : TypeInfo} {z : Value} {du : TypeDesc} (ht : at_[0]? = some t) (hu : at_[1]? = some u) (hte : P.underlying t = some (.slice e)) (hi : P.info? e = some i) (hz : i.zero = some z) (hni : ∀ k, du ≠ .int k) (hud : P.underlying u = some du)
    {ba : Option Addr} {sLen sCap n : Nat} {x : Value} {cs0 cs : List Value} (hlen : (Builtin.lenOf x).run P W = .ok n W) (hf : (Builtin.firstCells i.size n x).run P W.drew = .ok cs.toArray W.drew)
    (hf0 : (Builtin.firstCells i.size sLen (.slice ba sLen sCap)).run P W.drew = .ok cs0.toArray W.drew) (hfit : ¬ sLen + n ≤ sCap) (hsmall : sLen + n ≤ 70368744177664) (hbytes : Builtin.nextslicecap (sLen + n) sCap * i.bytes ≤ 281474976710656) :
    ∃ cap, sLen + n ≤ cap ∧ (Builtin.append_ at_ ty #[.slice ba sLen sCap, x]).run P W =
      .ok (.slice (some ⟨W.heap.size, 0, none⟩) (sLen + n) cap) (W.drew.alloc (.cells (cs0 ++ cs ++ (Builtin.zeroCells z.cells (cap - (sLen + n))).toList).toArray e)) := by
  have hsz : szT P e = some i.size := by simp [szT, hi]
  have hzz : zeroOf P e = some z := by simp [zeroOf, hi, hz]
  have h2 : ¬ (Builtin.nextslicecap (sLen + n) sCap * i.bytes > 2 ^ 48) := by omega
  have h1 : ¬ (((sLen + n : Nat) : Int) > IntKind.i64.max ∧ (False ∨ i.bytes = 0)) := by
    simp [IntKind.max, IntKind.signed, IntKind.bits]; omega
  refine ⟨(Question.appendCap (sLen + n) sCap e).cut (W.tape W.drawn (.appendCap (sLen + n) sCap e)), by simp [Question.cut], ?_⟩
  have hcat : ∀ (arr : Array Value), (cs0 ++ cs).toArray ++ arr = (cs0 ++ (cs ++ arr.toList)).toArray := fun arr => by apply Array.ext'; simp
  have h4 : ¬ (281474976710656 < Builtin.nextslicecap (sLen + n) sCap * i.bytes) := by omega
  cases du
  case int k => exact absurd rfl (hni k)
  all_goals
    unfold Builtin.append_
    simp only [ht, hu, List.getElem?_toArray, List.getElem?_cons_zero, List.getElem?_cons_succ, Sem.run_bind, run_underlying hte, run_szT hsz, run_underlying hud, Sem.run_pure, Bool.false_eq_true, if_false, hlen, hfit, Bool.not_false, if_true,
      typeInfo, run_program, hi, h1, h2, run_choose, Question.forced, World.drew_eq, run_askRoom, hf0, hf, run_zeroOf hzz, newRow, run_newObj, Result.andThen]
    simp
    rw [hcat]
    rfl
theorem ok_append {c : Call} {t u : TypeId} {so xo : Operand} (ho : o.op = .call c) (hc : c.callee = .builtin .append) (hargs : c.args = #[so, xo]) (ht : c.argTypes[0]? = some t) (hu : c.argTypes[1]? = some u) :
    AopOk P o ev h (aAppend P t u (ev so) (ev xo) h K) K := by
  intro r hr
  generalize hsv : ev so = sv at hr
  unfold aAppend at hr
  split at hr
  · rename_i e hte
    split at hr
    · rename_i i hi
      split at hr
      · rename_i z hz
        split at hr
        · rename_i hb
          simp only [Bool.and_eq_true] at hb
          have hs1 := Nat.eq_of_beq_eq_true hb.1.1
          have hs2 := Nat.le_of_ble_eq_true hb.1.2
          have hs3 := Nat.le_of_ble_eq_true hb.2
          split at hr
          · cases hr
          · rename_i du hni hud
            split at hr
            · rename_i nn row h' hd
              obtain ⟨row2, hr2, Hsrc⟩ := srcK_ok (P := P) (by omega) hr
              split at hr2
              · rename_i row' hrow' hone'
                have hvs := rowApp_ok hrow'
                cases hcd : decide (elemsN row'.len i.size * (i.bytes + 1) ≤ 70368744177664) with
                | false => rw [hcd, cond_false] at hr2; cases hr2
                | true =>
                  rw [hcd, cond_true, appB_eq] at hr2
                  simp only [decide_eq_true_eq] at hcd
                  refine ⟨_, _, _, hr2, rfl, fun hx hsame => ?_⟩
                  have hsame : hx = h := hsame
                  subst hsame
                  intro E a W hh hv next Q hnext
                  have hops : ∀ y, y = so ∨ y = xo → VR E hx.length (ev y) (a.eval y) := fun y hy => hv y (by
                    rw [ho]; simp only [Op.operands, Call.operands, hc, hargs]; rcases hy with rfl | rfl <;> simp)
                  obtain ⟨hin2, n, hn, hlen2, hfirst2⟩ := Hsrc E W hh _ (hops xo (.inr rfl))
                  have hD := destOf_ok hd E
                  have hiz : szT P e = some i.size := by simp [szT, hi]
                  have hzz : zeroOf P e = some z := by simp [zeroOf, hi, hz]
                  have hso := hops so (.inl rfl)
                  rw [hsv] at hso
                  have hlenh : h'.length = hx.length := by
                    cases hD with
                    | nil ba he => rfl
                    | own b _ hbk => exact setB_len _ _ _
                  have hkill : Holds E h' W ∧ Trans E hx W E h' W := by
                    cases hD with
                    | nil ba he => exact ⟨hh, Trans.refl _ _ _⟩
                    | own b _ hbk => exact hh.kill b
                  have hinr : inSs hx.length row'.toVs = true := by
                    rw [hvs, inSs_append, hin2, Bool.and_true]
                    cases hD with
                    | nil ba he => subst he; rfl
                    | own b _ hbk => exact (hh.ok b _ hbk).2.1
                  -- the call, given what is done
                  have call : ∀ {ba : Option Addr} {sLen sCap : Nat} {v : Value} {W' : World}, a.eval so = .slice ba sLen sCap →
                      (Builtin.append_ c.argTypes o.type #[.slice ba sLen sCap, a.eval xo]).run P W = .ok v W' → (execOp a.eval o).run P W = .ok (.value v) W' := fun {ba sLen sCap v W'} hs hrun => by
                    have hargs' : c.args.map a.eval = #[.slice ba sLen sCap, a.eval xo] := by rw [hargs]; simp [hs]
                    simp only [execOp, ho, resolve, hc, Sem.run_bind, Sem.run_pure, Result.andThen_ok, invoke, builtin, hargs', hrun]
                  have hnint : ∀ k, du ≠ .int k := fun k hk => hni k hk
                  have fin : ∀ {sLen sCap : Nat} {ba : Option Addr} {cs0 : List Value}, a.eval so = .slice ba sLen sCap → sLen * i.size = row.toVs.length → cs0 = concs E row.toVs → ¬ sLen + n ≤ sCap →
                      (Builtin.firstCells i.size sLen (.slice ba sLen sCap)).run P W.drew = .ok cs0.toArray W.drew → Oper.wpE P o a W next Q := fun {sLen sCap ba cs0} hs hsl hcs0 hfit hf0 => by
                    have hrl : (sLen + n) * i.size = row'.len := by rw [Row.len_eq, hvs, List.length_append, ← hsl, ← hn, Nat.add_mul]
                    rw [elemsN_eq (by omega) hrl] at hcd
                    have hcd1 : sLen + n ≤ 70368744177664 := by
                      have : (sLen + n) * 1 ≤ (sLen + n) * (i.bytes + 1) := Nat.mul_le_mul_left _ (by omega)
                      omega
                    have hcd2 : (sLen + n) * i.bytes ≤ 70368744177664 := by
                      have : (sLen + n) * i.bytes ≤ (sLen + n) * (i.bytes + 1) := Nat.mul_le_mul_left _ (by omega)
                      omega
                    have hnc : Builtin.nextslicecap (sLen + n) sCap * i.bytes ≤ 281474976710656 := by
                      have h1 : Builtin.nextslicecap (sLen + n) sCap * i.bytes ≤ (2 * (sLen + n) + 512) * i.bytes := Nat.mul_le_mul_right _ (nextslicecap_le (by omega))
                      have h2 : (2 * (sLen + n) + 512) * i.bytes = 2 * ((sLen + n) * i.bytes) + 512 * i.bytes := by rw [Nat.add_mul, Nat.mul_assoc]
                      omega
                    obtain ⟨cap, hcap, hrun⟩ := run_append_more (P := P) (ty := o.type) ht hu hte hi hz hnint hud (hlen2 W) (hfirst2 W.drew hh.drew) hf0 hfit hcd1 hnc
                    have hrun' := call hs hrun
                    refine Oper.wpE_value hrun' ?_
                    have hrest : (Builtin.zeroCells z.cells (cap - (sLen + n))).toList.length = (cap - (sLen + n)) * i.size := by rw [Array.length_toList, model_zero_size, hs1]
                    obtain ⟨q1, q2⟩ := app_grow hkill hlenh (sz := i.size) (by omega) (row' := row') nn hrl hcap hinr _ hrest (e := e)
                    have he : cs0 ++ concs E row2.toVs ++ (Builtin.zeroCells z.cells (cap - (sLen + n))).toList = concs E row'.toVs ++ (Builtin.zeroCells z.cells (cap - (sLen + n))).toList := by rw [hcs0, hvs, concs_append]
                    rw [he]
                    refine hnext _ _ _ (.inr ⟨?_, ?_⟩) q1 q2
                    · simp only [inS, HEff.app, List.length_append, hlenh]; simp
                    · simp [conc, Env.putA, hlenh]
                  cases hD with
                  | nil ba he =>
                    have hs := (hso.val (by simp)).1
                    rw [conc] at hs
                    subst he
                    by_cases hn0 : n = 0
                    · have hr2 : row2.toVs = [] := List.eq_nil_of_length_eq_zero (by rw [← hn, hn0]; simp)
                      have hfc := hfirst2 W hh
                      have hrun := run_append_room (P := P) (W' := W) (ty := o.type) ht hu hte hi hnint hud (ba := ba) (sLen := 0) (sCap := 0) (hlen2 W) hfc (by omega)
                        (by rw [hr2]; cases ba <;> simp [concs, storeCells])
                      have hrun' := call hs hrun
                      refine Oper.wpE_value hrun' ?_
                      obtain ⟨q1, q2⟩ := app_none hkill hlenh (e := e) (sz := i.size) (by omega) (row' := row') (by rw [hvs, hr2]; rfl) ba
                      refine hnext _ _ _ (.inr ⟨?_, ?_⟩) q1 q2
                      · simp only [inS, HEff.app, List.length_append]; simp
                      · simp [conc, Env.putA, hn0]
                    · exact fin hs (by simp [Row.toVs]) rfl (by omega) (by cases ba <;> simp [Builtin.firstCells, Row.toVs, concs, loadCells, loadCellsFrom])
                  | own b _ hbk =>
                    have hs := (hso.val (by simp)).1
                    rw [conc] at hs
                    obtain ⟨hd0, hs0, hz0, hl0, hc0, hnil0, hcells⟩ := hh.ok b _ hbk
                    cases hnn : E.isnil b with
                    | true =>
                      rw [hnn, cond_true] at hs
                      have hr0 : row.toVs = [] := List.eq_nil_of_length_eq_zero (by rw [← Row.len_eq]; exact (hnil0 hnn).1)
                      have hnnf := (hnil0 hnn).2
                      subst hnnf
                      by_cases hn0 : n = 0
                      · have hr2 : row2.toVs = [] := List.eq_nil_of_length_eq_zero (by rw [← hn, hn0]; simp)
                        have hfc := hfirst2 W hh
                        have hrun := run_append_room (P := P) (W' := W) (ty := o.type) ht hu hte hi hnint hud (ba := E.base b) (sLen := 0) (sCap := 0) (hlen2 W) hfc (by omega)
                          (by rw [hr2]; cases E.base b <;> simp [concs, storeCells])
                        have hrun' := call hs hrun
                        refine Oper.wpE_value hrun' ?_
                        obtain ⟨q1, q2⟩ := app_none hkill hlenh (e := e) (sz := i.size) (by omega) (row' := row') (by rw [hvs, hr2, hr0]; rfl) (E.base b)
                        refine hnext _ _ _ (.inr ⟨?_, ?_⟩) q1 q2
                        · simp only [inS, HEff.app, List.length_append, hlenh]; simp
                        · simp [conc, Env.putA, hn0, hlenh]
                      · exact fin hs (by rw [hr0]; simp) rfl (by omega) (by rw [hr0]; cases E.base b <;> simp [Builtin.firstCells, concs, loadCells, loadCellsFrom])
                    | false =>
                      rw [hnn, cond_false] at hs
                      rw [Row.len_eq] at hl0
                      by_cases hfit : E.len b + n ≤ E.cap b
                      · have hfc := hfirst2 W hh
                        obtain ⟨W', hst, q1, q2⟩ := app_fit (P := P) hh hbk hnn hvs hn hfit (rowOne_conc hone') hinr
                        have hrun := run_append_room (P := P) (W' := W') (ty := o.type) ht hu hte hi hnint hud (ba := some ⟨E.blk b, E.delta b, none⟩) (sLen := E.len b) (sCap := E.cap b) (hlen2 W) hfc hfit
                          (by simp only [Addr_add_lit]; exact hst)
                        have hrun' := call hs hrun
                        refine Oper.wpE_value hrun' ?_
                        refine hnext _ _ _ (.inr ⟨?_, ?_⟩) q1 q2
                        · simp only [inS, HEff.app, List.length_append, setB_len]; simp
                        · simp [conc, Env.putA, hd0]
                      · refine fin hs hl0 rfl hfit ?_
                        have hl := run_loadCells_list (P := P) W.drew ⟨E.blk b, E.delta b, none⟩ (concs E row.toVs) (fun j v hv => by
                          rw [concs_eq, List.getElem?_map] at hv
                          cases hj : row.toVs[j]? with
                          | none => rw [hj] at hv; cases hv
                          | some w =>
                            rw [hj] at hv
                            injection hv with hv
                            rw [Addr_add_lit, ← hv]
                            exact (hh.drew.cell hbk hj).1)
                        rw [concs_eq, List.length_map, ← hl0, ← concs_eq] at hl
                        simp only [Builtin.firstCells, hl]
              · cases hr2
            · cases hr
          · cases hr
        · cases hr
      · cases hr
    · cases hr
  · cases hr

end
end Go.Eng
