/- ENGINE, PART 5g: slices beside nil. -/
import Derived.Test.YtbocdcnkmcejjaaDoorEngOpsConv
import Derived.Laws.Cover3
namespace Go.Eng
open Go
section
variable {R : Type} {P : Program} {o : Oper} {ev : Operand → V} {h : List Blk} {K : KOp R}

def pos : Nat → Bool
  | 0 => false
  | _ + 1 => true
/-- The slice over this block is not nil. -/
def nnB : Blk → Bool
  | .rs nn _ row | .grow nn _ _ row => cond nn true (pos row.len)
  | _ => false
theorem nnB_ok {blk : Blk} (hb : nnB blk = true) {E : Env} {n b : Nat} {W : World} (hk : BlkOk E n W b blk) : E.isnil b = false ∧ blk ≠ .dead := by
  cases blk <;> simp only [nnB] at hb <;> try cases hb
  · obtain ⟨_, _, _, _, h4, _⟩ := hk
    refine ⟨?_, by simp⟩
    cases hn : E.isnil b with
    | false => rfl
    | true =>
      obtain ⟨e1, e2⟩ := h4 hn
      rw [e2, cond_false, e1] at hb
      cases hb
  · obtain ⟨_, _, _, _, _, h4, _⟩ := hk
    refine ⟨?_, by simp⟩
    cases hn : E.isnil b with
    | false => rfl
    | true =>
      obtain ⟨e1, e2⟩ := h4 hn
      rw [e2, cond_false, e1] at hb
      cases hb
/-- Whether a slice is nil, as far as it is known. -/
def isNil (x : V) (h : List Blk) (K : Bool → List Nat → Option R) : Option R := match x with
  | .gs b => cond (nnB (getB h b)) (K false [b]) none
  | .view b _ _ _ => cond (nnB (getB h b)) (K false [b]) none
  | .aslice _ _ _ _ => K false []
  | .flat (.slice ba 0 0) => K ba.isNone []
  | _ => none
theorem isNil_ok {x : V} {Kq : Bool → List Nat → Option R} {r : R} (hr : isNil x h Kq = some r) : ∃ q rd, Kq q rd = some r ∧
    ∀ h2, (∀ b ∈ rd, h2[b]? = h[b]?) → ∀ E W, Holds E h2 W → ∀ y, VR E h2.length x y → ∃ ba n c, y = .slice ba n c ∧ ba.isNone = q := by
  unfold isNil at hr
  split at hr
  · rename_i b
    cases hq : nnB (getB h b) with
    | false => rw [hq] at hr; cases hr
    | true =>
      rw [hq, cond_true] at hr
      refine ⟨_, _, hr, fun h2 hs E W hh y hy => ?_⟩
      have hb := getB_some (h := h) (b := b) rfl (fun e => by rw [e] at hq; cases hq)
      have hb2 : h2[b]? = some (getB h b) := (hs b (by simp)).trans hb
      obtain ⟨h1, _⟩ := nnB_ok hq (hh.ok b _ hb2)
      exact ⟨_, _, _, by rw [(hy.val (by simp)).1, conc, h1, cond_false], rfl⟩
  · rename_i b _ _ _
    cases hq : nnB (getB h b) with
    | false => rw [hq] at hr; cases hr
    | true =>
      rw [hq, cond_true] at hr
      refine ⟨_, _, hr, fun h2 hs E W hh y hy => ?_⟩
      have hb := getB_some (h := h) (b := b) rfl (fun e => by rw [e] at hq; cases hq)
      have hb2 : h2[b]? = some (getB h b) := (hs b (by simp)).trans hb
      obtain ⟨h1, _⟩ := nnB_ok hq (hh.ok b _ hb2)
      exact ⟨_, _, _, by rw [(hy.val (by simp)).1, conc, h1, cond_false], rfl⟩
  · exact ⟨_, _, hr, fun h2 _ E W hh y hy => ⟨_, _, _, (hy.val (by simp)).1, rfl⟩⟩
  · exact ⟨_, _, hr, fun h2 _ E W hh y hy => ⟨_, _, _, (hy.val (by simp)).1, rfl⟩⟩
  · cases hr

def aBinX (P : Program) (op : BinOp) (t : TypeId) (x y : V) (h : List Blk) (K : KOp R) : Option R := match y with
  | .flat (.slice none 0 0) => match P.underlying t with
    | some (.slice _) => isNil x h (fun q rd => match op with
      | .eql => K (.bool q) rd .none
      | .neq => K (.bool (!q)) rd .none
      | _ => none)
    | _ => none
  | y => aBin P op t x y K
theorem eqGuard_slice {op : BinOp} {t : TypeId} {x y : Operand} {ba : Option Addr} {n c : Nat} {v : Value} (W : World) : (eqGuard op t x y (.slice ba n c) v).run P W = .ok () W := by
  unfold eqGuard
  split <;> simp
theorem ok_binX {op : BinOp} {t yt : TypeId} {x y : Operand} (ho : o.op = .binOp op t x y yt) : AopOk P o ev h (aBinX P op t (ev x) (ev y) h K) K := by
  intro r hr
  unfold aBinX at hr
  split at hr
  · rename_i hy
    split at hr
    · rename_i e he
      obtain ⟨q, rd, hk, H⟩ := isNil_ok hr
      have main : ∀ (h2 : List Blk), (∀ b ∈ rd, h2[b]? = h[b]?) → ∀ E (a : Act) W, Holds E h2 W → (∀ x ∈ o.op.operands, VR E h2.length (ev x) (a.eval x)) →
          ∃ ba n c, a.eval x = .slice ba n c ∧ ba.isNone = q ∧ a.eval y = .slice none 0 0 := fun h2 hs E a W hh hv => by
        obtain ⟨ba, n, c, h1, h2'⟩ := H h2 hs E W hh _ (hv x (by simp [ho, Op.operands]))
        have h3 := hv y (by simp [ho, Op.operands])
        rw [hy] at h3
        exact ⟨ba, n, c, h1, h2', (h3.val (by simp)).1⟩
      split at hk
      · refine ⟨_, _, _, hk, fun _ _ => rfl, fun h2 hs => OpSem.value fun E a W hh hv => ⟨.bool q, VR.mkBool, ?_⟩⟩
        obtain ⟨ba, n, c, h1, h2', h3⟩ := main h2 hs E a W hh hv
        simp only [execOp, ho, h1, h3, Sem.run_bind, eqGuard_slice, Result.andThen_ok, binOp, run_equal_slice_nil _ t e ba n c he, Sem.run_pure, h2']
      · refine ⟨_, _, _, hk, fun _ _ => rfl, fun h2 hs => OpSem.value fun E a W hh hv => ⟨.bool (!q), VR.mkBool, ?_⟩⟩
        obtain ⟨ba, n, c, h1, h2', h3⟩ := main h2 hs E a W hh hv
        simp only [execOp, ho, h1, h3, Sem.run_bind, eqGuard_slice, Result.andThen_ok, binOp, run_equal_slice_nil _ t e ba n c he, Sem.run_pure, h2']
      · cases hk
    · cases hr
  · exact ok_bin ho r hr
end
end Go.Eng
