/- ENGINE, PART 5d: parts of slices and strings; append; bytes and strings. -/
import Derived.Test.YtbocdcnkmcejjaaDoorEngOpsSlice2
import Derived.Laws.BytesString
namespace Go.Eng
open Go
section
variable {R : Type} {P : Program} {o : Oper} {ev : Operand → V} {h : List Blk} {K : KOp R}

/-! ### cutting -/
def extS (s : ByteArray) (l h : Nat) : ByteArray := ⟨((s.data.toList.drop l).take (h - l)).toArray⟩
theorem extS_eq (s : ByteArray) (l h : Nat) : s.extract l h = extS s l h := by
  apply ByteArray.ext
  simp only [ByteArray.data_extract, extS]
  apply Array.ext'
  simp [List.extract]
def optE (ev : Operand → V) : Option Operand → Option V
  | some x => some (ev x)
  | none => none
def optI (d : Int) : Option V → Option Int
  | none => some d
  | some (.int _ i) => some i
  | _ => none
def bounds (lo hi : Option V) (len cap : Nat) (K : Nat → Nat → Option R) : Option R := match optI 0 lo, optI (Int.ofNat len) hi with
  | some l, some h => cond (decide (0 ≤ l ∧ l ≤ h ∧ h ≤ Int.ofNat cap)) (K l.toNat h.toNat) none
  | _, _ => none
theorem run_bounds {lo hi : Option Operand} {len cap : Nat} {Kb : Nat → Nat → Option R} {r : R} (hr : bounds (optE ev lo) (optE ev hi) len cap Kb = some r) :
    ∃ l h', l ≤ h' ∧ h' ≤ cap ∧ Kb l h' = some r ∧ ∀ (b : Bool) (cap' : Nat), cap ≤ cap' → ∀ (n : Nat) (E : Env) (a : Act) (W : World), (∀ x, lo = some x ∨ hi = some x → VR E n (ev x) (a.eval x)) →
      (Instr.sliceBounds b len cap' (lo.map a.eval) (hi.map a.eval) none).run P W = .ok (l, h', cap') W := by
  unfold bounds at hr
  split at hr
  · rename_i l h' hl hh
    cases hb : decide (0 ≤ l ∧ l ≤ h' ∧ h' ≤ Int.ofNat cap) with
    | false => rw [hb, cond_false] at hr; cases hr
    | true =>
      rw [hb, cond_true] at hr
      simp only [decide_eq_true_eq] at hb
      obtain ⟨b1, b2, b3⟩ := hb
      simp only [Int.ofNat_eq_natCast] at b3
      refine ⟨l.toNat, h'.toNat, by omega, by omega, hr, fun b cap' hc n E a W hv => ?_⟩
      have hH : (match hi.map a.eval with
          | some v => Instr.sliceBound v cap' (if b then .sliceAcap else .sliceAlen)
          | none => pure len : Sem Nat).run P W = .ok h'.toNat W := by
        cases hi with
        | none => simp only [optE, optI, Option.some.injEq] at hh; subst hh; simp
        | some x =>
          simp only [optE] at hh
          cases hx : ev x <;> rw [hx] at hh <;> simp [optI] at hh
          rename_i k i
          subst hh
          have := hv x (.inr rfl)
          rw [hx] at this
          simp only [Option.map_some, this.int, Instr.sliceBound, asIntOf, Sem.run_bind, Sem.run_pure, Result.andThen_ok]
          rw [if_pos ⟨by omega, by omega⟩]
          rfl
      have hL : (match lo.map a.eval with
          | some v => Instr.sliceBound v h'.toNat .sliceB
          | none => pure 0 : Sem Nat).run P W = .ok l.toNat W := by
        cases lo with
        | none => simp only [optE, optI, Option.some.injEq] at hl; subst hl; rfl
        | some x =>
          simp only [optE] at hl
          cases hx : ev x <;> rw [hx] at hl <;> simp [optI] at hl
          rename_i k i
          subst hl
          have := hv x (.inl rfl)
          rw [hx] at this
          simp only [Option.map_some, this.int, Instr.sliceBound, asIntOf, Sem.run_bind, Sem.run_pure, Result.andThen_ok]
          rw [if_pos ⟨by omega, by omega⟩]
          rfl
      unfold Instr.sliceBounds
      cases hi with
      | none =>
        cases lo with
        | none => simp only [Option.map_none] at hH hL ⊢; simp only [Sem.run_bind, Sem.run_pure, Result.andThen_ok] at hH hL ⊢; simp at hH hL; simp [hH, hL]
        | some y => simp only [Option.map_none, Option.map_some] at hH hL ⊢; simp only [Sem.run_bind, Sem.run_pure, Result.andThen_ok] at hH hL ⊢; simp at hH; subst hH; simp [hL]
      | some x =>
        cases lo with
        | none => simp only [Option.map_none, Option.map_some] at hH hL ⊢; simp only [Sem.run_bind, Sem.run_pure, Result.andThen_ok, hH] at hL ⊢; simp at hL; simp [hL]
        | some y => simp only [Option.map_some] at hH hL ⊢; simp [Sem.run_bind, Result.andThen_ok, hH, hL]
  · cases hr

def aSlice (P : Program) (t : TypeId) (x : V) (lo hi mx : Option V) (h : List Blk) (K : KOp R) : Option R := match mx with
  | some _ => none
  | none => match P.underlying t with
    | some .string => match x with
      | .str s => bounds lo hi (lenS s) (lenS s) (fun l h' => K (.str (extS s l h')) [] .none)
      | _ => none
    | some (.slice e) => match szT P e with
      | some sz => match x with
        | .gs b => match lo, hi with
          | none, none => K (.gs b) [] .none
          | _, _ => match sliceRow (getB h b) with
            | some (sz', row) => match Nat.beq sz' sz with
              | true => bounds lo hi (elemsN row.len sz) (elemsN row.len sz) (fun l h' => K (.view b l sz (h' - l)) [b] .none)
              | false => none
            | none => none
        | .view b l0 sz' len => match Nat.beq sz' sz, lo with
          | true, none => match sliceRow (getB h b) with
            | some (sz2, row) => match Nat.beq sz2 sz with
              | true => cond (decide (l0 + len ≤ elemsN row.len sz)) (bounds none hi len len (fun _ h' => K (.view b l0 sz h') [b] .none)) none
              | false => none
            | none => none
          | _, _ => none
        | .flat (.slice ba 0 0) => bounds lo hi 0 0 (fun _ _ => K (.flat (.slice ba 0 0)) [] .none)
        | _ => none
      | none => none
    | some (.array n e) => match szT P e, x with
      | some sz, .ptr b off => bounds lo hi n n (fun l h' => K (.aslice b (bif Nat.beq n l then off else addS off (mulS l sz)) (h' - l) (n - l)) [] .none)
      | _, _ => none
    | _ => none
theorem ok_slice {t : TypeId} {x : Operand} {lo hi mx : Option Operand} (ho : o.op = .slice t x lo hi mx) : AopOk P o ev h (aSlice P t (ev x) (optE ev lo) (optE ev hi) (optE ev mx) h K) K := by
  intro r hr
  have hvx : ∀ {n : Nat} {E : Env} {a : Act}, (∀ z ∈ o.op.operands, VR E n (ev z) (a.eval z)) → VR E n (ev x) (a.eval x) := fun hv => hv x (by
    rw [ho]; simp only [Op.operands]; simp)
  have hvb : ∀ {n : Nat} {E : Env} {a : Act}, (∀ z ∈ o.op.operands, VR E n (ev z) (a.eval z)) → ∀ y, lo = some y ∨ hi = some y → VR E n (ev y) (a.eval y) := fun hv y hy => hv y (by
    rw [ho]; simp only [Op.operands]; rcases hy with rfl | rfl <;> simp)
  unfold aSlice at hr
  split at hr
  · cases hr
  · rename_i hmx
    have hm : mx = none := by cases mx <;> simp [optE] at hmx; rfl
    subst hm
    split at hr
    · rename_i hu
      split at hr
      · rename_i s hx
        obtain ⟨l, h', h1, h2, hk, H⟩ := run_bounds (P := P) hr
        refine pureOk hk fun n E a W hv => ⟨_, VR.mkStr, ?_⟩
        have h0 := hvx hv
        rw [hx] at h0
        have hb := H false (lenS s) (Nat.le_refl _) n E a W (hvb hv)
        simp only [execOp, ho, h0.str, Instr.sliceAt, Sem.run_bind, run_underlying hu, Result.andThen_ok, Instr.slice, Option.map_none]
        simp only [Option.isSome_none, Bool.false_eq_true, if_false, Sem.run_bind, Sem.run_pure, Result.andThen_ok, lenS_eq, hb]
        simp [extS_eq]
      · cases hr
    · rename_i e hu
      split at hr
      · rename_i sz hsz
        split at hr
        · rename_i b hx
          split at hr
          · rename_i hlo hhi
            have hl : lo = none := by cases lo <;> simp [optE] at hlo; rfl
            have hh : hi = none := by cases hi <;> simp [optE] at hhi; rfl
            subst hl; subst hh
            refine pureOk hr fun n E a W hv => ?_
            have h0 := hvx hv
            rw [hx] at h0
            obtain ⟨e1, e2⟩ := h0.val (by simp)
            refine ⟨conc E (.gs b), VR.of e2, ?_⟩
            have ha0 : ∀ (ad : Addr), ad.add (0 * sz) = ad := fun ad => by simp [Addr.add]
            simp only [execOp, ho, e1, conc, Instr.sliceAt, Sem.run_bind, run_underlying hu, Result.andThen_ok, Option.map_none]
            cases hn : E.isnil b with
            | true =>
              simp only [cond_true, Instr.slice, Sem.run_bind, run_underlying hu, Result.andThen_ok, Instr.sliceBounds, Sem.run_pure, run_szT hsz]
              simp
            | false =>
              simp only [cond_false, Instr.slice, Sem.run_bind, run_underlying hu, Result.andThen_ok, Instr.sliceBounds, Sem.run_pure, run_szT hsz, Option.map_some, ha0]
              simp
          · split at hr
            · rename_i sz' row hsr
              split at hr
              · rename_i hsz2
                have := Nat.eq_of_beq_eq_true hsz2
                subst this
                obtain ⟨l, h', h1, h2, hk, H⟩ := run_bounds (P := P) hr
                refine ⟨_, [b], .none, hk, fun _ _ => rfl, fun hp hs => OpSem.value fun E a W hh hv => ?_⟩
                have hne : getB h b ≠ .dead := fun e => by rw [e] at hsr; simp [sliceRow] at hsr
                have hb2 : hp[b]? = some (getB h b) := (hs b (by simp)).trans (getB_some rfl hne)
                obtain ⟨_, hz, hl, hcap, hnil, _⟩ := sliceRow_ok hsr (hh.ok b _ hb2)
                rw [elemsN_eq hz hl] at h2 H
                have h0 := hvx hv
                rw [hx] at h0
                obtain ⟨e1, e2⟩ := h0.val (by simp)
                refine ⟨conc E (.view b l sz' (h' - l)), VR.of (by simpa [inS] using e2), ?_⟩
                simp only [execOp, ho, e1, conc, Instr.sliceAt, Sem.run_bind, run_underlying hu, Result.andThen_ok, Option.map_none]
                cases hn : E.isnil b with
                | true =>
                  have h3 := hnil hn
                  rw [h3] at hl
                  have hl0 : E.len b = 0 := by
                    rcases Nat.mul_eq_zero.1 hl with h | h
                    · exact h
                    · omega
                  rw [hl0] at h2 H
                  have hbd := H true 0 (Nat.le_refl _) _ E a W (hvb hv)
                  have : h' = 0 := by omega
                  subst this
                  have : l = 0 := by omega
                  subst this
                  simp only [cond_true, Instr.slice, Sem.run_bind, run_underlying hu, Result.andThen_ok, hbd, Sem.run_pure, run_szT hsz]
                  simp
                | false =>
                  have hbd := H true (E.cap b) hcap _ E a W (hvb hv)
                  simp only [cond_false, Instr.slice, Sem.run_bind, run_underlying hu, Result.andThen_ok, hbd, Sem.run_pure, run_szT hsz, Option.map_some, Addr_add_lit]
                  split <;> rfl
              · cases hr
            · cases hr
        · rename_i b l0 sz' len hx
          split at hr
          · rename_i hsz1 hlo
            have hl : lo = none := by cases lo <;> simp [optE] at hlo; rfl
            subst hl
            have := Nat.eq_of_beq_eq_true hsz1
            subst this
            split at hr
            · rename_i sz2 row hsr
              split at hr
              · rename_i hsz2
                have := Nat.eq_of_beq_eq_true hsz2
                subst this
                cases hcd : decide (l0 + len ≤ elemsN row.len sz2) with
                | false => rw [hcd, cond_false] at hr; cases hr
                | true =>
                  rw [hcd, cond_true] at hr
                  simp only [decide_eq_true_eq] at hcd
                  obtain ⟨l, h', h1, h2, hk, H⟩ := run_bounds (P := P) (ev := ev) (lo := none) hr
                  refine ⟨_, [b], .none, hk, fun _ _ => rfl, fun hp hs => OpSem.value fun E a W hh hv => ?_⟩
                  have hne : getB h b ≠ .dead := fun e => by rw [e] at hsr; simp [sliceRow] at hsr
                  have hb2 : hp[b]? = some (getB h b) := (hs b (by simp)).trans (getB_some rfl hne)
                  obtain ⟨_, hz, hl, hcap, hnil, _⟩ := sliceRow_ok hsr (hh.ok b _ hb2)
                  rw [elemsN_eq hz hl] at hcd
                  have h0 := hvx hv
                  rw [hx] at h0
                  obtain ⟨e1, e2⟩ := h0.val (by simp)
                  refine ⟨conc E (.view b l0 sz2 h'), VR.of (by simpa [inS] using e2), ?_⟩
                  have hl00 : l = 0 := by
                    have hbd := H true len (Nat.le_refl _) _ E a W (fun y hy => hvb hv y (by simpa using hy))
                    unfold bounds at hr
                    cases hh' : optI (Int.ofNat len) (optE ev hi) with
                    | none => rw [hh'] at hr; simp [optI] at hr
                    | some q =>
                      cases hi with
                      | none => simp [Instr.sliceBounds] at hbd; omega
                      | some y =>
                        simp only [Option.map_none, Option.map_some, Instr.sliceBounds, Sem.run_bind, Sem.run_pure, Result.andThen_ok] at hbd
                        generalize (Instr.sliceBound (a.eval y) len _).run P W = rr at hbd
                        cases rr with
                        | ok v w => simp at hbd; omega
                        | halt _ _ => simp at hbd
                  subst hl00
                  simp only [execOp, ho, e1, conc, Instr.sliceAt, Sem.run_bind, run_underlying hu, Result.andThen_ok, Option.map_none]
                  cases hn : E.isnil b with
                  | true =>
                    have h3 := hnil hn
                    rw [h3] at hl
                    have hl0 : E.len b = 0 := by
                      rcases Nat.mul_eq_zero.1 hl with h | h
                      · exact h
                      · omega
                    have hlen0 : len = 0 := by omega
                    subst hlen0
                    have hbd := H true 0 (Nat.le_refl _) _ E a W (fun y hy => hvb hv y (by simpa using hy))
                    simp only [Option.map_none] at hbd
                    have : h' = 0 := by omega
                    subst this
                    simp only [cond_true, Instr.slice, Sem.run_bind, run_underlying hu, Result.andThen_ok, hbd, Sem.run_pure, run_szT hsz]
                    simp
                  | false =>
                    have hbd := H true (E.cap b - l0) (by omega) _ E a W (fun y hy => hvb hv y (by simpa using hy))
                    simp only [Option.map_none] at hbd
                    have ha0 : ∀ (ad : Addr), ad.add (0 * sz2) = ad := fun ad => by simp [Addr.add]
                    simp only [cond_false, Instr.slice, Sem.run_bind, run_underlying hu, Result.andThen_ok, hbd, Sem.run_pure, run_szT hsz, Option.map_some, ha0]
                    simp
              · cases hr
            · cases hr
          · cases hr
        · rename_i ba hx
          obtain ⟨l, h', h1, h2, hk, H⟩ := run_bounds (P := P) hr
          refine pureOk hk fun q E a W hv => ⟨.slice ba 0 0, .inr ⟨rfl, rfl⟩, ?_⟩
          have h0 := hvx hv
          rw [hx] at h0
          have e1 := (h0.val (by simp)).1
          have hbd := H true 0 (Nat.le_refl _) q E a W (hvb hv)
          have l0 : l = 0 := by omega
          have l1 : h' = 0 := by omega
          subst l0; subst l1
          simp only [execOp, ho, e1, conc, Instr.sliceAt, Sem.run_bind, run_underlying hu, Result.andThen_ok, Option.map_none, Instr.slice, hbd, Sem.run_pure, run_szT hsz]
          simp
        · cases hr
      · cases hr
    · rename_i n e hu
      split at hr
      · rename_i sz b off hsz hx
        obtain ⟨l, h', h1, h2, hk, H⟩ := run_bounds (P := P) hr
        refine pureOk hk fun q E a W hv => ?_
        have h0 := hvx hv
        rw [hx] at h0
        obtain ⟨e1, e2⟩ := h0.val (by simp)
        refine ⟨conc E (.aslice b (bif Nat.beq n l then off else addS off (mulS l sz)) (h' - l) (n - l)), VR.of (by simpa [inS] using e2), ?_⟩
        have hbd := H false n (Nat.le_refl _) q E a W (hvb hv)
        simp only [execOp, ho, e1, conc, Instr.sliceAt, Sem.run_bind, run_underlying hu, Result.andThen_ok, Option.map_none, Instr.sureAddr, Sem.run_pure, hbd, run_szT hsz, Addr_add_lit, addS_eq, mulS_eq]
        by_cases hnl : n = l
        · subst hnl; simp
        · have : Nat.beq n l = false := by
            cases hbb : Nat.beq n l with
            | false => rfl
            | true => exact absurd (Nat.eq_of_beq_eq_true hbb) hnl
          rw [this]
          simp [hnl, Nat.add_assoc]
      · cases hr
    · cases hr

end
end Go.Eng
