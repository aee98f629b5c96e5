/- ENGINE, PART 17: functions that are known over heaps of their own, as an oracle. -/
import Derived.Test.YtnbfnoomhlamnaaEngLocal2
namespace Go.Eng
open Go

section
variable {R : Type}
def locAs : List V → List Blk → List Blk → (List V → List Blk → Option R) → Option R
  | [], _, h, K => K [] h
  | x :: r, H, h, K => locK x H h.length (fun x' nb => locAs r H (h ++ nb) (fun r' h' => K (x' :: r') h'))
theorem locAs_ok {H : List Blk} : ∀ {args : List V} {h : List Blk} {K : List V → List Blk → Option R} {r : R}, locAs args H h K = some r → ∃ args' h', K args' h' = some r ∧
    ∀ E W, Holds E H W → inSs H.length args = true → ∀ E0, Holds E0 h W → (∀ (b : Nat) blk, h[b]? = some blk → blk.mine = false) →
      ∃ E1, Agree h.length E0 E1 ∧ h.length ≤ h'.length ∧ Holds E1 h' W ∧ concs E1 args' = concs E args ∧ inSs h'.length args' = true ∧ ∀ (b : Nat) blk, h'[b]? = some blk → blk.mine = false
  | [], h, K, r, hr => ⟨[], h, hr, fun E W hh hs E0 h0 hro => ⟨E0, Agree.refl _ _, Nat.le_refl _, h0, rfl, rfl, hro⟩⟩
  | x :: q, h, K, r, hr => by
    unfold locAs at hr
    obtain ⟨x', nb, h1, H1⟩ := locK_ok hr
    obtain ⟨q', h', h2, H2⟩ := locAs_ok h1
    refine ⟨x' :: q', h', h2, fun E W hh hs E0 h0 hro => ?_⟩
    simp only [inSs, Bool.and_eq_true] at hs
    obtain ⟨E1, a1, b1, c1, d1, e1⟩ := H1 E W hh hs.1 E0 h h0 rfl hro
    obtain ⟨E2, a2, l2, b2, c2, d2, e2⟩ := H2 E W hh hs.2 E1 b1 e1
    have hle : h.length ≤ (h ++ nb).length := by simp
    refine ⟨E2, a1.trans a2 hle, Nat.le_trans hle l2, b2, ?_, ?_, e2⟩
    · simp only [concs]
      rw [conc_agree a2 x' d1, c1, c2]
    · simp only [inSs, Bool.and_eq_true]
      exact ⟨inS_mono l2 x' d1, d2⟩

abbrev HTab := FuncId → List V → List Blk → Option (Bool × V × List Blk)
def HTabOk (P : Program) (T : HTab) : Prop := ∀ f args h c v nb, T f args h = some (c, v, nb) → c = true → Enterable P f ∧ FnOK P f args h v (h ++ nb)
def emptyH : HTab := fun _ _ _ => none
theorem emptyH_ok {P : Program} : HTabOk P emptyH := fun _ _ _ _ _ _ h => by cases h
def addH (f : FuncId) (g : List V → List Blk → Option (Bool × V × List Blk)) (T : HTab) : HTab := fun f' args h => cond (Nat.beq f' f) (g args h) (T f' args h)
theorem addH_ok {P : Program} {T : HTab} {f : FuncId} {g : List V → List Blk → Option (Bool × V × List Blk)} (hg : ∀ args h c v nb, g args h = some (c, v, nb) → c = true → Enterable P f ∧ FnOK P f args h v (h ++ nb)) (hT : HTabOk P T) : HTabOk P (addH f g T) := by
  intro f' args h c v nb hq hc
  unfold addH at hq
  cases hb : Nat.beq f' f with
  | true =>
    rw [hb] at hq
    have := Nat.eq_of_beq_eq_true hb
    subst this
    exact hg args h c v nb hq hc
  | false => rw [hb] at hq; exact hT f' args h c v nb hq hc
def hOrc (T : HTab) : Oracle := fun _ t args H K => match t with
  | .fn f => locAs args H [] (fun args' h => match T f args' h with
    | some (c, v, nb) => cond c (match freshBs h.length nb && fromV h.length v with
      | true => K (shV h.length H.length v) [] (.all (H ++ shBs h.length H.length nb))
      | false => none) none
    | none => none)
  | .yield _ => none
theorem hOrc_ok {P : Program} {T : HTab} (hT : HTabOk P T) : OracleOk P (hOrc T) := by
  intro R t args H K r hr
  unfold hOrc at hr
  split at hr
  · rename_i f
    obtain ⟨args', h, hk, HL⟩ := locAs_ok hr
    split at hk
    · rename_i c v nb hq
      cases c with
      | false => cases hk
      | true =>
        rw [cond_true] at hk
        split at hk
        · rename_i hfr
          simp only [Bool.and_eq_true] at hfr
          obtain ⟨hent, hfn⟩ := hT f args' h true v nb hq rfl
          refine ⟨_, _, _, hk, rfl, hent, fun h2 hs => ?_⟩
          rw [show h2 = H from hs]
          intro E W hh hin
          obtain ⟨E1, _, _, g1, g2, g3, g4⟩ := HL E W hh hin { blk := fun _ => 0, delta := fun _ => 0, len := fun _ => 0, cap := fun _ => 0, isnil := fun _ => false, base := fun _ => none } ⟨fun b blk hb => by simp at hb, fun b b' blk blk' hb => by simp at hb⟩ (fun b blk hb => by simp at hb)
          have := hfn E1 W g1 g3
          rw [g2] at this
          refine this.mono ?_
          rintro e W' ⟨x, E2, rfl, hx, hh', ht⟩
          obtain ⟨q1, q2⟩ := fresh_holds hh hh' ht g4 hfr.1
          refine ⟨x, _, rfl, ?_, q1, q2⟩
          rcases hx with rfl | ⟨hx1, hx2⟩
          · exact .inl rfl
          · rw [List.length_append] at hx1
            obtain ⟨k1, k2⟩ := conc_sh (AgreeAt.join E E2 h.length H.length nb.length) v hx1 hfr.2
            refine .inr ⟨?_, by rw [hx2, k1]⟩
            simp only [HEff.app, List.length_append, shBs_eq, List.length_map]
            exact k2
        · cases hk
    · cases hk
  · cases hr
end
end Go.Eng
