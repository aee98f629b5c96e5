/- ENGINE, PART 17: functions that are known over heaps of their own, as an oracle. -/
import Derived.Test.YtbocdcnkmcejjaaDoorEngLocal2
namespace Go.Eng
open Go

section
variable {R : Type}
def locAs : List V → List Blk → List Blk → (List V → List Blk → Option R) → Option R
  | [], _, h, K => K [] h
  | x :: r, H, h, K => locK x H h.length (fun x' nb => locAs r H (h ++ nb) (fun r' h' => K (x' :: r') h'))
theorem locAs_ok {H : List Blk} : ∀ {args : List V} {h : List Blk} {K : List V → List Blk → Option R} {r : R}, locAs args H h K = some r → ∃ args' h', K args' h' = some r ∧
    ∀ E W, Holds E H W → inSs H.length args = true → ∀ E0, Holds E0 h W → (∀ (b : Nat) blk, h[b]? = some blk → blk.mine = false) →
      ∃ E1, Agree h.length E0 E1 ∧ h.length ≤ h'.length ∧ Holds E1 h' W ∧ concs E1 args' = concs E args ∧ inSs h'.length args' = true ∧ ∀ (b : Nat) blk, h'[b]? = some blk → blk.mine = false
  | [], h, K, r, hr => ⟨[], h, hr, fun E W hh hs E0 h0 hro => ⟨E0, Agree.refl _ _, Nat.le_refl _, h0, rfl, rfl, hro⟩⟩
  | x :: q, h, K, r, hr => by
    unfold locAs at hr
    obtain ⟨x', nb, h1, H1⟩ := locK_ok hr
    obtain ⟨q', h', h2, H2⟩ := locAs_ok h1
    refine ⟨x' :: q', h', h2, fun E W hh hs E0 h0 hro => ?_⟩
    simp only [inSs, Bool.and_eq_true] at hs
    obtain ⟨E1, a1, b1, c1, d1, e1⟩ := H1 E W hh hs.1 E0 h h0 rfl hro
    obtain ⟨E2, a2, l2, b2, c2, d2, e2⟩ := H2 E W hh hs.2 E1 b1 e1
    have hle : h.length ≤ (h ++ nb).length := by simp
    refine ⟨E2, a1.trans a2 hle, Nat.le_trans hle l2, b2, ?_, ?_, e2⟩
    · simp only [concs]
      rw [conc_agree a2 x' d1, c1, c2]
    · simp only [inSs, Bool.and_eq_true]
      exact ⟨inS_mono l2 x' d1, d2⟩

theorem Holds.lendG {E0 : Env} {h : List Blk} {W : World} (hh : Holds E0 h W) (hro : ∀ (b : Nat) blk, h[b]? = some blk → blk.mine = false) {blk delta len cap : Nat} {nil : Bool} {ba : Option Addr} {x : Blk} (hx : x.mine = false)
    (hk : BlkOk (E0.one h.length blk delta len cap nil ba) (h.length + 1) W h.length x) :
    Holds (E0.one h.length blk delta len cap nil ba) (h ++ [x]) W ∧ ∀ (b : Nat) y, (h ++ [x])[b]? = some y → y.mine = false := by
  have hE := Agree.one E0 h.length blk delta len cap nil ba
  have hro' : ∀ (b : Nat) y, (h ++ [x])[b]? = some y → y.mine = false := fun b y hb => by
    rcases getElem?_snoc hb with hb | ⟨_, rfl⟩
    · exact hro b y hb
    · exact hx
  refine ⟨(hh.keep hE fun _ _ => rfl).snoc hk (fun b y hb _ _ hm => ?_), hro'⟩
  rcases hm with hm | hm
  · rw [hx] at hm; cases hm
  · rw [hro b y hb] at hm; cases hm
/-- Tables that a function reads lie ahead of its own heap. -/
def locG : List Nat → List Blk → List Blk → (List Blk → Option R) → Option R
  | [], _, h, K => K h
  | g :: q, H, h, K => match findG H g 0 with
    | some b => match getB H b with
      | .glob _ row => match rowPlain row with
        | true => locG q H (h ++ [.glob g row]) K
        | false => none
      | _ => none
    | none => none
theorem locG_ok {H : List Blk} : ∀ {gs : List Nat} {h : List Blk} {K : List Blk → Option R} {r : R}, locG gs H h K = some r → ∃ h', K h' = some r ∧
    ∀ E W, Holds E H W → ∀ E0, Holds E0 h W → (∀ (b : Nat) blk, h[b]? = some blk → blk.mine = false) →
      ∃ E1, Agree h.length E0 E1 ∧ h.length ≤ h'.length ∧ Holds E1 h' W ∧ ∀ (b : Nat) blk, h'[b]? = some blk → blk.mine = false
  | [], h, K, r, hr => ⟨h, hr, fun E W _ E0 h0 hro => ⟨E0, Agree.refl _ _, Nat.le_refl _, h0, hro⟩⟩
  | g :: q, h, K, r, hr => by
    unfold locG at hr
    split at hr
    · rename_i b hf
      obtain ⟨row0, _, hrow⟩ := findG_ok hf
      rw [Nat.sub_zero] at hrow
      split at hr
      · rename_i g' row hb
        have hrow2 := getB_some hb (by simp)
        rw [hrow] at hrow2
        cases hrow2
        split at hr
        · rename_i hpl
          obtain ⟨h', h1, H1⟩ := locG_ok hr
          refine ⟨h', h1, fun E W hh E0 h0 hro => ?_⟩
          obtain ⟨e1, e2, _, e3⟩ := hh.ok b _ hrow
          obtain ⟨q1, q2⟩ := h0.lendG hro (blk := g) (delta := 0) (len := 0) (cap := 0) (nil := false) (ba := none) (x := .glob g row0) rfl (by
            refine ⟨by simp [Env.one], by simp [Env.one], (rowPlain_ok hpl E E _).1, fun j v hj => ?_⟩
            simp only [Env.one, if_true]
            rw [(rowPlain_ok hpl _ E 0).2 j v hj]
            have := e3 j v hj
            rw [e1, e2] at this
            exact this)
          obtain ⟨E1, a1, l1, k1, m1⟩ := H1 E W hh _ q1 q2
          exact ⟨E1, (Agree.one _ _ _ _ _ _ _ _).trans a1 (by simp), by simp at l1; omega, k1, m1⟩
        · cases hr
      · cases hr
    · cases hr

abbrev HTab := FuncId → List V → List Blk → Option (Bool × V × List Blk)
def HTabOk (P : Program) (T : HTab) : Prop := ∀ f args h c v nb, T f args h = some (c, v, nb) → c = true → Enterable P f ∧ FnOK P f args h v (h ++ nb)
def emptyH : HTab := fun _ _ _ => none
theorem emptyH_ok {P : Program} : HTabOk P emptyH := fun _ _ _ _ _ _ h => by cases h
def addH (f : FuncId) (g : List V → List Blk → Option (Bool × V × List Blk)) (T : HTab) : HTab := fun f' args h => cond (Nat.beq f' f) (g args h) (T f' args h)
theorem addH_ok {P : Program} {T : HTab} {f : FuncId} {g : List V → List Blk → Option (Bool × V × List Blk)} (hg : ∀ args h c v nb, g args h = some (c, v, nb) → c = true → Enterable P f ∧ FnOK P f args h v (h ++ nb)) (hT : HTabOk P T) : HTabOk P (addH f g T) := by
  intro f' args h c v nb hq hc
  unfold addH at hq
  cases hb : Nat.beq f' f with
  | true =>
    rw [hb] at hq
    have := Nat.eq_of_beq_eq_true hb
    subst this
    exact hg args h c v nb hq hc
  | false => rw [hb] at hq; exact hT f' args h c v nb hq hc
def hOrcG (gl : FuncId → List Nat) (T : HTab) : Oracle := fun _ t args H K => match t with
  | .fn f => locG (gl f) H [] (fun h0 => locAs args H h0 (fun args' h => match T f args' h with
    | some (c, v, nb) => cond c (match freshBs h.length nb && fromV h.length v with
      | true => K (shV h.length H.length v) [] (.all (H ++ shBs h.length H.length nb))
      | false => none) none
    | none => none))
  | .yield _ => none
theorem hOrcG_ok {P : Program} {gl : FuncId → List Nat} {T : HTab} (hT : HTabOk P T) : OracleOk P (hOrcG gl T) := by
  intro R t args H K r hr
  unfold hOrcG at hr
  split at hr
  · rename_i f
    obtain ⟨h0, hr, HG⟩ := locG_ok hr
    obtain ⟨args', h, hk, HL⟩ := locAs_ok hr
    split at hk
    · rename_i c v nb hq
      cases c with
      | false => cases hk
      | true =>
        rw [cond_true] at hk
        split at hk
        · rename_i hfr
          simp only [Bool.and_eq_true] at hfr
          obtain ⟨hent, hfn⟩ := hT f args' h true v nb hq rfl
          refine ⟨_, _, _, hk, rfl, hent, fun h2 hs => ?_⟩
          rw [show h2 = H from hs]
          intro E W hh hin
          obtain ⟨E0, _, _, g5, g6⟩ := HG E W hh { blk := fun _ => 0, delta := fun _ => 0, len := fun _ => 0, cap := fun _ => 0, isnil := fun _ => false, base := fun _ => none } ⟨fun b blk hb => by simp at hb, fun b b' blk blk' hb => by simp at hb⟩ (fun b blk hb => by simp at hb)
          obtain ⟨E1, _, _, g1, g2, g3, g4⟩ := HL E W hh hin E0 g5 g6
          have := hfn E1 W g1 g3
          rw [g2] at this
          refine this.mono ?_
          rintro e W' ⟨x, E2, rfl, hx, hh', ht⟩
          obtain ⟨q1, q2⟩ := fresh_holds hh hh' ht g4 hfr.1
          refine ⟨x, _, rfl, ?_, q1, q2⟩
          rcases hx with rfl | ⟨hx1, hx2⟩
          · exact .inl rfl
          · rw [List.length_append] at hx1
            obtain ⟨k1, k2⟩ := conc_sh (AgreeAt.join E E2 h.length H.length nb.length) v hx1 hfr.2
            refine .inr ⟨?_, by rw [hx2, k1]⟩
            simp only [HEff.app, List.length_append, shBs_eq, List.length_map]
            exact k2
        · cases hk
    · cases hk
  · cases hr
abbrev hOrc (T : HTab) : Oracle := hOrcG (fun _ => []) T
theorem hOrc_ok {P : Program} {T : HTab} (hT : HTabOk P T) : OracleOk P (hOrc T) := hOrcG_ok hT
end
end Go.Eng
