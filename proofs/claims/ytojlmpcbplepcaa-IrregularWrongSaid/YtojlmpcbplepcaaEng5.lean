/- THE ENGINE, piece 5: an interpreter of the model over abstract values, proved sound. -/
import Derived.Test.YtojlmpcbplepcaaEng4
import Derived.WideKeyArgs
import Derived.DataElems
/- ENGINE, PART 17f: a slice that came in and may be nil: by cases; slices.Clone. -/
namespace Go.Eng
open Go
/-- The second block says no more than the first one: whether a slice is not nil, and how its row is written. -/
inductive Soft : Blk → Blk → Prop
  | refl (x : Blk) : Soft x x
  | rs (nn nn' : Bool) (sz : Nat) (r r' : Row) : r'.toVs = r.toVs → (nn' = true → nn = true) → Soft (.rs nn sz r) (.rs nn' sz r')
  | grow (nn nn' : Bool) (ty : TypeId) (sz : Nat) (r r' : Row) : r'.toVs = r.toVs → (nn' = true → nn = true) → Soft (.grow nn ty sz r) (.grow nn' ty sz r')
theorem Soft.ok {x y : Blk} (h : Soft x y) {E : Env} {n b : Nat} {W : World} (hk : BlkOk E n W b x) : BlkOk E n W b y ∧ y.mine = x.mine ∧ liveAt E b y = liveAt E b x := by
  cases h with
  | refl => exact ⟨hk, rfl, rfl⟩
  | rs nn nn' sz r r' hv hn =>
    have hl : r'.len = r.len := by rw [Row.len_eq, Row.len_eq, hv]
    obtain ⟨h1, h2, h3, h4, h5, h6⟩ := hk
    refine ⟨⟨by rw [hv]; exact h1, h2, by rw [hl]; exact h3, h4, fun hi => ⟨by rw [hl]; exact (h5 hi).1, ?_⟩, by rw [hv]; exact h6⟩, rfl, by simp only [liveAt, hv]⟩
    cases nn' with
    | false => rfl
    | true => have := (h5 hi).2; rw [hn rfl] at this; cases this
  | grow nn nn' ty sz r r' hv hn =>
    have hl : r'.len = r.len := by rw [Row.len_eq, Row.len_eq, hv]
    obtain ⟨h0, h1, h2, h3, h4, h5, h6⟩ := hk
    refine ⟨⟨h0, by rw [hv]; exact h1, h2, by rw [hl]; exact h3, h4, fun hi => ⟨by rw [hl]; exact (h5 hi).1, ?_⟩, by rw [hv, hl]; exact h6⟩, rfl, rfl⟩
    cases nn' with
    | false => rfl
    | true => have := (h5 hi).2; rw [hn rfl] at this; cases this
theorem Holds.soft {E : Env} {h h' : List Blk} {W : World} (hh : Holds E h W) (hl : h'.length = h.length) (hs : ∀ (b : Nat) y, h'[b]? = some y → ∃ x, h[b]? = some x ∧ Soft x y) : Holds E h' W ∧ ∀ k, Mine E h' k → Mine E h k := by
  refine ⟨⟨fun b y hb => ?_, fun b b' y y' hb hb' hm hlv hlv' he => ?_⟩, fun k hk => ?_⟩
  · obtain ⟨x, hx, h1⟩ := hs b y hb
    rw [hl]; exact (h1.ok (hh.ok b x hx)).1
  · obtain ⟨x, hx, h1⟩ := hs b y hb
    obtain ⟨x', hx', h1'⟩ := hs b' y' hb'
    obtain ⟨_, q1, q2⟩ := h1.ok (hh.ok b x hx)
    obtain ⟨_, q1', q2'⟩ := h1'.ok (hh.ok b' x' hx')
    exact hh.inj b b' x x' hx hx' (by rw [← q1]; exact hm) (by rw [← q2]; exact hlv) (by rw [← q2']; exact hlv') he
  · obtain ⟨b, y, hb, hm, hlv, he⟩ := hk
    obtain ⟨x, hx, h1⟩ := hs b y hb
    obtain ⟨_, q1, q2⟩ := h1.ok (hh.ok b x hx)
    exact ⟨b, x, hx, by rw [← q1]; exact hm, by rw [← q2]; exact hlv, he⟩
theorem no_mine1 {E : Env} {nn : Bool} {sz : Nat} {row : Row} (k : Nat) : ¬ Mine E [.rs nn sz row] k := by
  rintro ⟨b, blk, hb, hm, _⟩
  cases b with
  | zero => simp at hb; subst hb; cases hm
  | succ b => simp at hb
/-- A function that answers a copy of the slice that it is handed (nil where it is nil). -/
theorem FnOK.clone {P : Program} {f : FuncId} {ty : TypeId} {row : Row}
    (hA : FnOK P f [.gs 0] [.rs true 1 row] (.gs 1) ([.rs true 1 row] ++ [.grow true ty 1 row]))
    (hB : FnOK P f [.flat (.slice none 0 0)] [] (.flat (.slice none 0 0)) [])
    (hC : ∀ a, FnOK P f [.flat (.slice (some a) 0 0)] [] (.gs 0) ([] ++ [.grow true ty 1 (.vs [])])) (nn : Bool) :
    FnOK P f [.gs 0] [.rs nn 1 row] (.gs 1) ([.rs nn 1 row] ++ [.grow false ty 1 row]) := by
  intro E W hh hin
  obtain ⟨h1, h2, h3, h4, h5, h6⟩ := hh.ok 0 (.rs nn 1 row) rfl
  cases hn : E.isnil 0 with
  | false =>
    have hh' : Holds E [.rs true 1 row] W := by
      refine ⟨fun b blk hb => ?_, fun b b' x x' hb hb' hm _ _ _ => ?_⟩
      · cases b with
        | zero => simp at hb; subst hb; exact ⟨h1, h2, h3, h4, fun hi => (by rw [hn] at hi; cases hi), h6⟩
        | succ b => simp at hb
      · cases b with
        | zero => simp at hb; subst hb; cases hm
        | succ b => simp at hb
    refine (hA E W hh' hin).mono ?_
    rintro e W' ⟨x, E2, rfl, hx, hh2, ht⟩
    have hag := ht.agree.isnil 0 (by simp)
    rw [hn] at hag
    obtain ⟨q1, q2⟩ := Holds.soft (h' := [.rs nn 1 row] ++ [.grow false ty 1 row]) hh2 rfl (fun b y hb => by
      cases b with
      | zero =>
        simp at hb; subst hb
        exact ⟨_, rfl, .rs true nn 1 row row rfl (fun _ => rfl)⟩
      | succ b => cases b with
        | zero => simp at hb; subst hb; exact ⟨_, rfl, .grow true false ty 1 row row rfl (fun h => by cases h)⟩
        | succ b => simp at hb)
    exact ⟨x, E2, rfl, hx, q1, ⟨ht.agree, by simp, fun k hk => (ht.mine k (q2 k hk)).elim (fun h => absurd h (no_mine1 k)) .inr, fun k hk _ => ht.frame k hk (no_mine1 k), ht.size, ht.os, ht.tape, ht.output⟩⟩
  | true =>
    have hrow : row.toVs = [] := List.eq_nil_of_length_eq_zero (by rw [← Row.len_eq]; exact (h5 hn).1)
    cases hb : E.base 0 with
    | none =>
      have hcall := hB E W ⟨fun b blk hb => by simp at hb, fun b b' blk blk' hb => by simp at hb⟩ rfl
      have hargs : concs E [.flat (.slice none 0 0)] = concs E [.gs 0] := by simp [concs, conc, hn, hb]
      rw [hargs] at hcall
      refine hcall.mono ?_
      rintro e W' ⟨x, E2, rfl, hx, _, ht⟩
      have hBl := Trans.below_ro (fun b blk hb => by simp at hb) ht
      obtain ⟨k1, k2⟩ := hh.below hBl
      have hg : AllGh [.grow false ty 1 row] := by
        intro b hb
        rw [List.mem_singleton] at hb
        subst hb
        exact .mk _ _ _ hrow (by omega)
      refine ⟨x, E.gh 1, rfl, .inr ⟨by simp [inS], ?_⟩, gh_holds k1 hg, ⟨k2.agree.trans (Agree.gh E _) (Nat.le_refl _), by simp, fun z hz => k2.mine z (gh_mine hg hz), k2.frame, k2.size, k2.os, k2.tape, k2.output⟩⟩
      rw [(hx.val (by simp)).1]
      simp [conc, Env.gh]
    | some a =>
      have hcall := hC a E W ⟨fun b blk hb => by simp at hb, fun b b' blk blk' hb => by simp at hb⟩ rfl
      have hargs : concs E [.flat (.slice (some a) 0 0)] = concs E [.gs 0] := by simp [concs, conc, hn, hb]
      rw [hargs] at hcall
      refine hcall.mono ?_
      rintro e W' ⟨x, E2, rfl, hx, hh2, ht⟩
      obtain ⟨q1, q2⟩ := fresh_holds (H := [.rs nn 1 row]) (h := []) (nb := [.grow true ty 1 (.vs [])]) hh hh2 ht (fun b blk hb => by simp at hb) rfl
      obtain ⟨s1, s2⟩ := Holds.soft (h' := [.rs nn 1 row] ++ [.grow false ty 1 row]) q1 rfl (fun b y hb => by
        cases b with
        | zero => simp at hb; subst hb; exact ⟨_, rfl, .refl _⟩
        | succ b => cases b with
          | zero => simp at hb; subst hb; exact ⟨_, rfl, .grow true false ty 1 (.vs []) row (by rw [hrow]; rfl) (fun h => by cases h)⟩
          | succ b => simp at hb)
      refine ⟨x, _, rfl, .inr ⟨by simp [inS], ?_⟩, s1, ⟨q2.agree, by simp, fun k hk => q2.mine k (s2 k hk), q2.frame, q2.size, q2.os, q2.tape, q2.output⟩⟩
      obtain ⟨hx1, hx2⟩ := hx.val (by simp)
      obtain ⟨k1, _⟩ := conc_sh (AgreeAt.join E E2 0 1 1) (.gs 0) hx2 rfl
      rw [hx1, ← k1]; rfl
end Go.Eng

/- ENGINE, PART 22: contracts of functions that are handed structures with slices in them, or answer such. -/
namespace Go.Eng
open Go
section
variable {R : Type}
/-- The fields of a structure: slices as blocks of a heap of their own; nr tells for a block's number how a nil slice is written there. -/
def locFs (nr : Nat → Option Row) : List V → List Blk → List Blk → (List V → List Blk → Option R) → Option R
  | [], _, h, K => K [] h
  | x :: r, H, h, K => locN (nr h.length) x H h.length (fun x' nb => locFs nr r H (h ++ nb) (fun r' h' => K (x' :: r') h'))
theorem locFs_ok {nr : Nat → Option Row} {H : List Blk} : ∀ {args : List V} {h : List Blk} {K : List V → List Blk → Option R} {r : R}, locFs nr args H h K = some r → ∃ args' h', K args' h' = some r ∧
    ∀ E W, Holds E H W → inSs H.length args = true → ∀ E0, Holds E0 h W → (∀ (b : Nat) blk, h[b]? = some blk → blk.mine = false) →
      ∃ E1, Agree h.length E0 E1 ∧ h.length ≤ h'.length ∧ Holds E1 h' W ∧ concs E1 args' = concs E args ∧ inSs h'.length args' = true ∧ ∀ (b : Nat) blk, h'[b]? = some blk → blk.mine = false
  | [], h, K, r, hr => ⟨[], h, hr, fun E W hh hs E0 h0 hro => ⟨E0, Agree.refl _ _, Nat.le_refl _, h0, rfl, rfl, hro⟩⟩
  | x :: q, h, K, r, hr => by
    unfold locFs at hr
    obtain ⟨x', nb, h1, H1⟩ := locN_ok hr
    obtain ⟨q', h', h2, H2⟩ := locFs_ok h1
    refine ⟨x' :: q', h', h2, fun E W hh hs E0 h0 hro => ?_⟩
    simp only [inSs, Bool.and_eq_true] at hs
    obtain ⟨E1, a1, b1, c1, d1, e1⟩ := H1 E W hh hs.1 E0 h h0 rfl hro
    obtain ⟨E2, a2, l2, b2, c2, d2, e2⟩ := H2 E W hh hs.2 E1 b1 e1
    have hle : h.length ≤ (h ++ nb).length := by simp
    refine ⟨E2, a1.trans a2 hle, Nat.le_trans hle l2, b2, ?_, ?_, e2⟩
    · simp only [concs]
      rw [conc_agree a2 x' d1, c1, c2]
    · simp only [inSs, Bool.and_eq_true]
      exact ⟨inS_mono l2 x' d1, d2⟩
def locX (nr : Nat → Option Row) : List V → List Blk → List Blk → (List V → List Blk → Option R) → Option R
  | [], _, h, K => K [] h
  | .agg l :: r, H, h, K => locFs nr l H h (fun l' h1 => locX nr r H h1 (fun r' h2 => K (.agg l' :: r') h2))
  | x :: r, H, h, K => locN (nr h.length) x H h.length (fun x' nb => locX nr r H (h ++ nb) (fun r' h' => K (x' :: r') h'))
theorem locX_ok {nr : Nat → Option Row} {H : List Blk} : ∀ {args : List V} {h : List Blk} {K : List V → List Blk → Option R} {r : R}, locX nr args H h K = some r → ∃ args' h', K args' h' = some r ∧
    ∀ E W, Holds E H W → inSs H.length args = true → ∀ E0, Holds E0 h W → (∀ (b : Nat) blk, h[b]? = some blk → blk.mine = false) →
      ∃ E1, Agree h.length E0 E1 ∧ h.length ≤ h'.length ∧ Holds E1 h' W ∧ concs E1 args' = concs E args ∧ inSs h'.length args' = true ∧ ∀ (b : Nat) blk, h'[b]? = some blk → blk.mine = false
  | [], h, K, r, hr => ⟨[], h, hr, fun E W hh hs E0 h0 hro => ⟨E0, Agree.refl _ _, Nat.le_refl _, h0, rfl, rfl, hro⟩⟩
  | x :: q, h, K, r, hr => by
    have main : ∀ {K' : V → List Blk → Option R}, (∀ {x' : V} {h1 : List Blk}, K' x' h1 = locX nr q H h1 (fun r' h2 => K (x' :: r') h2)) →
        (∃ x' h1, K' x' h1 = some r ∧ ∀ E W, Holds E H W → inS H.length x = true → ∀ E0, Holds E0 h W → (∀ (b : Nat) blk, h[b]? = some blk → blk.mine = false) →
          ∃ E1, Agree h.length E0 E1 ∧ h.length ≤ h1.length ∧ Holds E1 h1 W ∧ conc E1 x' = conc E x ∧ inS h1.length x' = true ∧ ∀ (b : Nat) blk, h1[b]? = some blk → blk.mine = false) →
        ∃ args' h', K args' h' = some r ∧ ∀ E W, Holds E H W → inSs H.length (x :: q) = true → ∀ E0, Holds E0 h W → (∀ (b : Nat) blk, h[b]? = some blk → blk.mine = false) →
          ∃ E1, Agree h.length E0 E1 ∧ h.length ≤ h'.length ∧ Holds E1 h' W ∧ concs E1 args' = concs E (x :: q) ∧ inSs h'.length args' = true ∧ ∀ (b : Nat) blk, h'[b]? = some blk → blk.mine = false := by
      intro K' hK' hx
      obtain ⟨x', h1, h2, H1⟩ := hx
      rw [hK'] at h2
      obtain ⟨q', h', h3, H2⟩ := locX_ok h2
      refine ⟨x' :: q', h', h3, fun E W hh hs E0 h0 hro => ?_⟩
      simp only [inSs, Bool.and_eq_true] at hs
      obtain ⟨E1, a1, l1, b1, c1, d1, e1⟩ := H1 E W hh hs.1 E0 h0 hro
      obtain ⟨E2, a2, l2, b2, c2, d2, e2⟩ := H2 E W hh hs.2 E1 b1 e1
      refine ⟨E2, a1.trans a2 l1, Nat.le_trans l1 l2, b2, ?_, ?_, e2⟩
      · simp only [concs]
        rw [conc_agree a2 x' d1, c1, c2]
      · simp only [inSs, Bool.and_eq_true]
        exact ⟨inS_mono l2 x' d1, d2⟩
    have plainCase : locN (nr h.length) x H h.length (fun x' nb => locX nr q H (h ++ nb) (fun r' h' => K (x' :: r') h')) = some r →
        ∃ args' h', K args' h' = some r ∧ ∀ E W, Holds E H W → inSs H.length (x :: q) = true → ∀ E0, Holds E0 h W → (∀ (b : Nat) blk, h[b]? = some blk → blk.mine = false) →
          ∃ E1, Agree h.length E0 E1 ∧ h.length ≤ h'.length ∧ Holds E1 h' W ∧ concs E1 args' = concs E (x :: q) ∧ inSs h'.length args' = true ∧ ∀ (b : Nat) blk, h'[b]? = some blk → blk.mine = false := fun hr => by
      obtain ⟨x', nb, h1, H1⟩ := locN_ok hr
      refine main (K' := fun x' h1 => locX nr q H h1 (fun r' h2 => K (x' :: r') h2)) rfl ⟨x', h ++ nb, h1, fun E W hh hs E0 h0 hro => ?_⟩
      obtain ⟨E1, a1, b1, c1, d1, e1⟩ := H1 E W hh hs E0 h h0 rfl hro
      exact ⟨E1, a1, by simp, b1, c1, d1, e1⟩
    cases x with
    | agg l =>
      unfold locX at hr
      obtain ⟨l', h1, h2, H1⟩ := locFs_ok hr
      refine main (K' := fun x' h1 => locX nr q H h1 (fun r' h2 => K (x' :: r') h2)) rfl ⟨.agg l', h1, h2, fun E W hh hs E0 h0 hro => ?_⟩
      obtain ⟨E1, a1, l1, b1, c1, d1, e1⟩ := H1 E W hh (by simpa [inS] using hs) E0 h0 hro
      exact ⟨E1, a1, l1, b1, by simp only [conc, c1], by simpa [inS] using d1, e1⟩
    | _ => unfold locX at hr; exact plainCase hr
def hOrcA (gl : FuncId → List Nat) (nr : FuncId → Nat → Option Row) (T : HTab) : Oracle := fun _ t args H K => match t with
  | .fn f => locG (gl f) H [] (fun h0 => locX (nr f) args H h0 (fun args' h => match T f args' h with
    | some (c, v, nb) => cond c (match freshBs h.length nb && fromV h.length v with
      | true => K (shV h.length H.length v) [] (.all (H ++ shBs h.length H.length nb))
      | false => none) none
    | none => none))
  | .yield _ => none
theorem hOrcA_ok {P : Program} {gl : FuncId → List Nat} {nr : FuncId → Nat → Option Row} {T : HTab} (hT : HTabOk P T) : OracleOk P (hOrcA gl nr T) := by
  intro R t args H K r hr
  unfold hOrcA at hr
  split at hr
  · rename_i f
    obtain ⟨h0, hr, HG⟩ := locG_ok hr
    obtain ⟨args', h, hk, HL⟩ := locX_ok hr
    split at hk
    · rename_i c v nb hq
      cases c with
      | false => cases hk
      | true =>
        rw [cond_true] at hk
        split at hk
        · rename_i hfr
          simp only [Bool.and_eq_true] at hfr
          obtain ⟨hent, hfn⟩ := hT f args' h true v nb hq rfl
          refine ⟨_, _, _, hk, rfl, hent, fun h2 hs => ?_, fun _ _ he => (by cases he)⟩
          rw [show h2 = H from hs]
          intro E W hh hin
          obtain ⟨E0, _, _, g5, g6⟩ := HG E W hh { blk := fun _ => 0, delta := fun _ => 0, len := fun _ => 0, cap := fun _ => 0, isnil := fun _ => false, base := fun _ => none } ⟨fun b blk hb => by simp at hb, fun b b' blk blk' hb => by simp at hb⟩ (fun b blk hb => by simp at hb)
          obtain ⟨E1, _, _, g1, g2, g3, g4⟩ := HL E W hh hin E0 g5 g6
          have := hfn E1 W g1 g3
          rw [g2] at this
          refine this.mono ?_
          rintro e W' ⟨x, E2, rfl, hx, hh', ht⟩
          obtain ⟨q1, q2⟩ := fresh_holds hh hh' ht g4 hfr.1
          refine ⟨x, _, rfl, ?_, q1, q2⟩
          rcases hx with rfl | ⟨hx1, hx2⟩
          · exact .inl rfl
          · rw [List.length_append] at hx1
            obtain ⟨k1, k2⟩ := conc_sh (AgreeAt.join E E2 h.length H.length nb.length) v hx1 hfr.2
            refine .inr ⟨?_, by rw [hx2, k1]⟩
            simp only [HEff.app, List.length_append, shBs_eq, List.length_map]
            exact k2
        · cases hk
    · cases hk
  · cases hr
/-! ### the same, where the call only reads -/
theorem locFs_bind (nr : Nat → Option Row) : ∀ (args : List V) (R : Type) (H h : List Blk) (K : List V → List Blk → Option R), locFs nr args H h K = (locFs nr args H h (fun a b => some (a, b))).bind (fun p => K p.1 p.2)
  | [], R, H, h, K => rfl
  | x :: r, R, H, h, K => by
    simp only [locFs]
    rw [locN_bind (nr h.length) x H h.length (fun x' nb => locFs nr r H (h ++ nb) (fun r' h' => K (x' :: r') h')), locN_bind (nr h.length) x H h.length (fun x' nb => locFs nr r H (h ++ nb) (fun r' h' => some (x' :: r', h')))]
    cases locN (nr h.length) x H h.length (fun a b => some (a, b)) with
    | none => rfl
    | some p =>
      simp only [Option.bind_some]
      rw [locFs_bind nr r R H (h ++ p.2) (fun r' h' => K (p.1 :: r') h'), locFs_bind nr r _ H (h ++ p.2) (fun r' h' => some (p.1 :: r', h'))]
      cases locFs nr r H (h ++ p.2) (fun a b => some (a, b)) with
      | none => rfl
      | some q => rfl
theorem locX_bind (nr : Nat → Option Row) : ∀ (args : List V) (R : Type) (H h : List Blk) (K : List V → List Blk → Option R), locX nr args H h K = (locX nr args H h (fun a b => some (a, b))).bind (fun p => K p.1 p.2)
  | [], R, H, h, K => rfl
  | x :: r, R, H, h, K => by
    have pc : ∀ (S : Type) (K : List V → List Blk → Option S), locN (nr h.length) x H h.length (fun x' nb => locX nr r H (h ++ nb) (fun r' h' => K (x' :: r') h')) = (locN (nr h.length) x H h.length (fun x' nb => locX nr r H (h ++ nb) (fun r' h' => some (x' :: r', h')))).bind (fun p => K p.1 p.2) := fun S K => by
      rw [locN_bind (nr h.length) x H h.length (fun x' nb => locX nr r H (h ++ nb) (fun r' h' => K (x' :: r') h')), locN_bind (nr h.length) x H h.length (fun x' nb => locX nr r H (h ++ nb) (fun r' h' => some (x' :: r', h')))]
      cases locN (nr h.length) x H h.length (fun a b => some (a, b)) with
      | none => rfl
      | some p =>
        simp only [Option.bind_some]
        rw [locX_bind nr r S H (h ++ p.2) (fun r' h' => K (p.1 :: r') h'), locX_bind nr r _ H (h ++ p.2) (fun r' h' => some (p.1 :: r', h'))]
        cases locX nr r H (h ++ p.2) (fun a b => some (a, b)) with
        | none => rfl
        | some q => rfl
    cases x with
    | agg l =>
      simp only [locX]
      rw [locFs_bind nr l R H h (fun l' h1 => locX nr r H h1 (fun r' h2 => K (.agg l' :: r') h2)), locFs_bind nr l _ H h (fun l' h1 => locX nr r H h1 (fun r' h2 => some (.agg l' :: r', h2)))]
      cases locFs nr l H h (fun a b => some (a, b)) with
      | none => rfl
      | some p =>
        simp only [Option.bind_some]
        rw [locX_bind nr r R H p.2 (fun r' h' => K (.agg p.1 :: r') h'), locX_bind nr r _ H p.2 (fun r' h' => some (.agg p.1 :: r', h'))]
        cases locX nr r H p.2 (fun a b => some (a, b)) with
        | none => rfl
        | some q => rfl
    | _ => simp only [locX]; exact pc R K
def nmX : List V → List Nat
  | [] => []
  | .agg l :: r => nmVs l ++ nmX r
  | x :: r => nameOf x ++ nmX r
theorem locFs_nm {nr : Nat → Option Row} {H H2 : List Blk} : ∀ {args : List V} {h : List Blk} {K : List V → List Blk → Option R}, (∀ b ∈ nmVs args, H2[b]? = H[b]?) → locFs nr args H2 h K = locFs nr args H h K
  | [], h, K, _ => rfl
  | x :: r, h, K, he => by
    simp only [locFs]
    rw [locN_nm (H := H) (fun b hb => he b (by simp [nmVs, hb]))]
    congr 1
    funext x' nb
    exact locFs_nm (fun b hb => he b (by simp [nmVs, hb]))
theorem locX_nm {nr : Nat → Option Row} {H H2 : List Blk} : ∀ {args : List V} {h : List Blk} {K : List V → List Blk → Option R}, (∀ b ∈ nmX args, H2[b]? = H[b]?) → locX nr args H2 h K = locX nr args H h K
  | [], h, K, _ => rfl
  | x :: r, h, K, he => by
    cases x with
    | agg l =>
      simp only [locX]
      rw [locFs_nm (H := H) (fun b hb => he b (by simp [nmX, hb]))]
      congr 1
      funext x' nb
      exact locX_nm (fun b hb => he b (by simp [nmX, hb]))
    | _ =>
      simp only [locX]
      rw [locN_nm (H := H) (fun b hb => he b (by simp [nmX, hb]))]
      congr 1
      funext x' nb
      exact locX_nm (fun b hb => he b (by simp [nmX, hb]))
def hOrcX (nr : FuncId → Nat → Option Row) (T : HTab) : Oracle := fun _ t args H K => match t with
  | .fn f => locX (nr f) args H [] (fun args' h => match T f args' h with
    | some (c, v, nb) => cond c (match nb with
      | [] => match plainV v with
        | true => K v (nmX args) .none
        | false => none
      | nb => match freshBs h.length nb && fromV h.length v with
        | true => K (shV h.length H.length v) [] (.all (H ++ shBs h.length H.length nb))
        | false => none) none
    | none => none)
  | .yield _ => none
theorem locX_call {P : Program} {T : HTab} (hT : HTabOk P T) {nr : Nat → Option Row} {f : FuncId} {args args' : List V} {H h nb : List Blk} {v : V} (hl : locX nr args H [] (fun a b => some (a, b)) = some (args', h)) (hq : T f args' h = some (true, v, nb)) :
    ∀ E W, Holds E H W → inSs H.length args = true → ∃ E1, Holds E1 h W ∧ (∀ (b : Nat) blk, h[b]? = some blk → blk.mine = false) ∧ Calls P f (concs E args).toArray W (EndsIn E1 W h v (h ++ nb)) := by
  intro E W hh hin
  obtain ⟨a2, h2, hk, HL⟩ := locX_ok hl
  cases hk
  obtain ⟨E1, _, _, g1, g2, g3, g4⟩ := HL E W hh hin { blk := fun _ => 0, delta := fun _ => 0, len := fun _ => 0, cap := fun _ => 0, isnil := fun _ => false, base := fun _ => none } ⟨fun b blk hb => by simp at hb, fun b b' blk blk' hb => by simp at hb⟩ (fun b blk hb => by simp at hb)
  obtain ⟨_, hfn⟩ := hT f args' h true v nb hq rfl
  have := hfn E1 W g1 g3
  rw [g2] at this
  exact ⟨E1, g1, g4, this⟩
theorem hOrcX_ok {P : Program} {nr : FuncId → Nat → Option Row} {T : HTab} (hT : HTabOk P T) : OracleOk P (hOrcX nr T) := by
  intro R t args H K r hr
  unfold hOrcX at hr
  split at hr
  · rename_i f
    rw [locX_bind] at hr
    cases hl : locX (nr f) args H [] (fun a b => some (a, b)) with
    | none => rw [hl] at hr; cases hr
    | some p =>
      obtain ⟨args', h⟩ := p
      rw [hl] at hr
      simp only [Option.bind_some] at hr
      have hl2 : ∀ H2, (∀ b ∈ nmX args, H2[b]? = H[b]?) → locX (nr f) args H2 [] (fun a b => some (a, b)) = some (args', h) := fun H2 he => by rw [locX_nm he]; exact hl
      split at hr
      · rename_i c v nb hq
        cases c with
        | false => cases hr
        | true =>
          rw [cond_true] at hr
          have hent := (hT f args' h true v nb hq rfl).1
          split at hr
          · split at hr
            · rename_i hpv
              refine ⟨v, _, _, hr, fun _ _ => rfl, hent, fun h2 hs => ?_, fun _ _ he => (by cases he)⟩
              intro E W hh hin
              obtain ⟨E1, _, hm, hcall⟩ := locX_call hT (hl2 h2 hs) hq E W hh hin
              refine hcall.mono ?_
              rintro e W' ⟨x, E2, rfl, hx, _, ht⟩
              obtain ⟨k1, k2⟩ := hh.below (keeps_of hm ht).below
              refine ⟨x, E, rfl, ?_, k1, k2⟩
              rcases hx with rfl | ⟨_, hx2⟩
              · exact .inl rfl
              · obtain ⟨p1, p2⟩ := plainV_conc (E := E2) (E' := E) (n := h2.length) v hpv
                exact .inr ⟨p2, by rw [hx2]; exact p1⟩
            · cases hr
          · split at hr
            · rename_i hfr
              simp only [Bool.and_eq_true] at hfr
              refine ⟨_, _, _, hr, rfl, hent, fun h2 hs => ?_, fun _ _ he => (by cases he)⟩
              rw [show h2 = H from hs]
              intro E W hh hin
              obtain ⟨E1, g1, g4, hcall⟩ := locX_call hT hl hq E W hh hin
              refine hcall.mono ?_
              rintro e W' ⟨x, E2, rfl, hx, hh', ht⟩
              obtain ⟨q1, q2⟩ := fresh_holds hh hh' ht g4 hfr.1
              refine ⟨x, _, rfl, ?_, q1, q2⟩
              rcases hx with rfl | ⟨hx1, hx2⟩
              · exact .inl rfl
              · rw [List.length_append] at hx1
                obtain ⟨k1, k2⟩ := conc_sh (AgreeAt.join E E2 h.length H.length nb.length) v hx1 hfr.2
                refine .inr ⟨?_, by rw [hx2, k1]⟩
                simp only [HEff.app, List.length_append, shBs_eq, List.length_map]
                exact k2
            · cases hr
      · cases hr
  · cases hr
end
/-! ### what a function answers, matched against a template: nil slices taken for blocks, rows tidied -/
theorem FnOK.ghost {P : Program} {f : FuncId} {args : List V} {h h' : List Blk} {v : V} (T : Tm) (hk : FnOK P f args h v h') : ∀ s, (⟨[v], h', []⟩ : AS).ghost T = s → ∃ v2, s.tmps = [v2] ∧ s.marks = [] ∧ FnOK P f args h v2 s.heap := by
  rintro s rfl
  unfold AS.ghost
  obtain ⟨k1, ⟨dn, k2⟩, k4⟩ := ghA_ok T ⟨[v], h', []⟩
  split
  · exact ⟨v, rfl, rfl, hk⟩
  · rename_i b r hbr
    rw [hbr] at k1 k2 k4
    obtain ⟨k5, k6⟩ := k4.get
    have hlen : ((ghA T ⟨[v], h', []⟩).1 ++ b :: r).length = h'.length + (b :: r).length := by rw [List.length_append, k2.len]
    obtain ⟨v2, hv2⟩ : ∃ v2, (ghS T.blks h'.length T.slots [v] []).1 = [v2] := by
      cases hl : (ghS T.blks h'.length T.slots [v] []).1 with
      | nil => rw [hl] at k5; cases k5
      | cons x q => cases q with
        | nil => exact ⟨x, rfl⟩
        | cons y q => rw [hl] at k5; simp at k5
    refine ⟨v2, hv2, rfl, fun E W hh hin => ?_⟩
    obtain ⟨u, hu, hs⟩ := k6 0 v2 (by rw [hv2]; rfl)
    obtain rfl : v = u := by simpa using hu
    refine (hk E W hh hin).mono ?_
    rintro e W' ⟨x, E2, rfl, hx, hh2, ht⟩
    refine ⟨x, E2.gh h'.length, rfl, ?_, gh_holds2 hh2 k1 k2, ⟨ht.agree.trans ((Agree.gh E2 _).mono ht.len) (Nat.le_refl _), by show h.length ≤ ((ghA T ⟨[v], h', []⟩).1 ++ b :: r).length; rw [hlen]; have := ht.len; omega, fun z hz => ht.mine z (gh_mine2 k1 k2 hz), ht.frame, ht.size, ht.os, ht.tape, ht.output⟩⟩
    rcases hx with rfl | ⟨h1, h2⟩
    · exact .inl (hs.1 rfl)
    · obtain ⟨h3, h4⟩ := hs.2 E2 h1
      exact .inr ⟨by show inS ((ghA T ⟨[v], h', []⟩).1 ++ b :: r).length v2 = true; rw [hlen]; exact h3, by rw [h2, h4]⟩
theorem FnOK.tidy {P : Program} {f : FuncId} {args : List V} {h h' : List Blk} {v : V} (hk : FnOK P f args h v h') : FnOK P f args h v (tidyBs h') := by
  intro E W hh hin
  refine (hk E W hh hin).mono ?_
  rintro e W' ⟨x, E2, rfl, hx, hh2, ht⟩
  refine ⟨x, E2, rfl, by rw [tidyBs_len]; exact hx, tidy_holds hh2, ⟨ht.agree, by rw [tidyBs_len]; exact ht.len, fun k hk => ht.mine k ?_, ht.frame, ht.size, ht.os, ht.tape, ht.output⟩⟩
  obtain ⟨b, y, hb, q1, q2, q3⟩ := hk
  obtain ⟨y', hy, rfl⟩ := tidy_get hb
  rw [tidy_mine] at q1
  rw [tidy_live] at q2
  exact ⟨b, y', hy, q1, q2, q3⟩
/-- The answer of a function as an instance of a template. -/
def ansT (T : Tm) (n : Nat) (v : V) (h' : List Blk) : Option (List PV × List (Code × Code)) := T.find n ((⟨[v], tidyBs h', []⟩ : AS).ghost T)
theorem fn_ans {P : Program} {C : Oracle} {L : Loops} {N : Nat} {f : FuncId} {fn : Func} {args : List V} {h h2 : List Blk} {v2 : V} {T : Tm} {ps : List PV} {c : List (Code × Code)} (hC : OracleOk P C) (hm : P.follows .mixedOrders = true) (hf : P.funcs[f]? = some fn) (hL : loopsOk P L)
    (hk : T.ok = true) (he : evalFn P C L N f fn args h (ansT T h.length) = some (ps, c)) (hc : codesOk c) (hat : T.at ps = ⟨[v2], h2, []⟩) : FnOK P f args h v2 h2 := by
  obtain ⟨v1, h1, hk1, hok⟩ := evalFn_ok hC hm hf hL he
  obtain ⟨v3, e1, e2, hok3⟩ := hok.tidy.ghost T _ rfl
  unfold ansT at hk1
  generalize hs : (⟨[v1], tidyBs h1, []⟩ : AS).ghost T = s at hk1 e1 e2 hok3
  obtain ⟨ρ, hs2⟩ := T.find_ok hk1 hc hk
  obtain ⟨st, sh, sm⟩ := s
  dsimp only at e1 e2 hok3
  subst e1; subst e2
  rw [hat] at hs2
  exact hok3.sub hs2
/-! ### slices that came in: not nil, or not known -/
def softB : Blk → Blk
  | .rs _ sz row => .rs false sz row
  | b => b
theorem softB_mine (b : Blk) : (softB b).mine = b.mine := by cases b <;> rfl
theorem softB_live (E : Env) (n : Nat) (b : Blk) : liveAt E n (softB b) = liveAt E n b := by cases b <;> rfl
theorem softB_ok {E : Env} {n b : Nat} {W : World} {x : Blk} (h : BlkOk E n W b x) : BlkOk E n W b (softB x) := by
  cases x
  case rs nn sz row => exact ⟨h.1, h.2.1, h.2.2.1, h.2.2.2.1, fun hi => ⟨(h.2.2.2.2.1 hi).1, rfl⟩, h.2.2.2.2.2⟩
  all_goals exact h
theorem softB_back {E E' : Env} {n m b : Nat} {W W' : World} {x : Blk} (h0 : BlkOk E n W b x) (he : E'.isnil b = E.isnil b) (h : BlkOk E' m W' b (softB x)) : BlkOk E' m W' b x := by
  cases x
  case rs nn sz row => exact ⟨h.1, h.2.1, h.2.2.1, h.2.2.2.1, fun hi => ⟨(h.2.2.2.2.1 hi).1, (h0.2.2.2.2.1 (he ▸ hi)).2⟩, h.2.2.2.2.2⟩
  all_goals exact h
theorem soft_holds {E : Env} {h : List Blk} {W : World} (hh : Holds E h W) : Holds E (h.map softB) W := by
  refine ⟨fun b y hb => ?_, fun b b' y y' hb hb' hm hl hl' he => ?_⟩
  · rw [List.getElem?_map, Option.map_eq_some_iff] at hb
    obtain ⟨x, hx, rfl⟩ := hb
    rw [List.length_map]
    exact softB_ok (hh.ok b x hx)
  · rw [List.getElem?_map, Option.map_eq_some_iff] at hb hb'
    obtain ⟨x, hx, rfl⟩ := hb
    obtain ⟨x', hx', rfl⟩ := hb'
    rw [softB_mine] at hm
    rw [softB_live] at hl hl'
    exact hh.inj b b' x x' hx hx' hm hl hl' he
/-- A contract that does not ask whether a slice that came in is nil serves where it is known not to be. -/
theorem FnOK.hard {P : Program} {f : FuncId} {args : List V} {h0 h1 nb : List Blk} {v : V} (hs : h1.map softB = h0) (hk : FnOK P f args h0 v (h0 ++ nb)) : FnOK P f args h1 v (h1 ++ nb) := by
  have hlen : h0.length = h1.length := by rw [← hs, List.length_map]
  intro E W hh hin
  have hh0 : Holds E h0 W := by rw [← hs]; exact soft_holds hh
  refine (hk E W hh0 (by rw [hlen]; exact hin)).mono ?_
  rintro e W' ⟨x, E', rfl, hx, hh', ht⟩
  have hl2 : (h1 ++ nb).length = (h0 ++ nb).length := by simp [hlen]
  have old : ∀ {b : Nat} {y : Blk}, (h1 ++ nb)[b]? = some y → ∃ y0, (h0 ++ nb)[b]? = some y0 ∧ y0.mine = y.mine ∧ (∀ F, liveAt F b y0 = liveAt F b y) ∧ BlkOk E' (h1 ++ nb).length W' b y := by
    intro b y hb
    rcases Nat.lt_or_ge b h1.length with hlt | hge
    · rw [List.getElem?_append_left hlt] at hb
      have hb0 : h0[b]? = some (softB y) := by rw [← hs, List.getElem?_map, hb]; rfl
      have hb1 : (h0 ++ nb)[b]? = some (softB y) := by rw [List.getElem?_append_left (by omega)]; exact hb0
      refine ⟨softB y, hb1, softB_mine y, fun F => softB_live F b y, ?_⟩
      have := hh'.ok b _ hb1
      rw [← hl2] at this
      exact softB_back (hh.ok b y hb) (ht.agree.isnil b (by omega)) this
    · rw [List.getElem?_append_right hge] at hb
      have hb1 : (h0 ++ nb)[b]? = some y := by rw [List.getElem?_append_right (by omega), hlen]; exact hb
      refine ⟨y, hb1, rfl, fun _ => rfl, ?_⟩
      have := hh'.ok b _ hb1
      rw [← hl2] at this
      exact this
  refine ⟨x, E', rfl, by rw [hl2]; exact hx, ⟨fun b y hb => ?_, fun b b' y y' hb hb' hm hl hl' he => ?_⟩, ⟨by rw [← hlen]; exact ht.agree, by rw [hl2, ← hlen]; exact ht.len, fun k hk2 => ?_, fun k hk2 hn => ht.frame k hk2 fun hm => hn ?_, ht.size, ht.os, ht.tape, ht.output⟩⟩
  · obtain ⟨_, _, _, _, h4⟩ := old hb
    exact h4
  · obtain ⟨z, h1', h2, h3, _⟩ := old hb
    obtain ⟨z', g1, g2, g3, _⟩ := old hb'
    exact hh'.inj b b' z z' h1' g1 (h2.trans hm) ((h3 E').trans hl) ((g3 E').trans hl') he
  · obtain ⟨b, y, hb, hm, hl, he⟩ := hk2
    obtain ⟨z, h1', h2, h3, _⟩ := old hb
    rcases ht.mine k ⟨b, z, h1', h2.trans hm, (h3 E').trans hl, he⟩ with ⟨b2, x2, q1, q2, q3, q4⟩ | hge
    · rw [← hs, List.getElem?_map, Option.map_eq_some_iff] at q1
      obtain ⟨w, hw, rfl⟩ := q1
      rw [softB_mine] at q2
      rw [softB_live] at q3
      exact .inl ⟨b2, w, hw, q2, q3, q4⟩
    · exact .inr hge
  · obtain ⟨b2, x2, q1, q2, q3, q4⟩ := hm
    rw [← hs, List.getElem?_map, Option.map_eq_some_iff] at q1
    obtain ⟨w, hw, rfl⟩ := q1
    rw [softB_mine] at q2
    rw [softB_live] at q3
    exact ⟨b2, w, hw, q2, q3, q4⟩
end Go.Eng

/- ENGINE: a block of a function's code known as a whole (a switch, run at each literal of what it branches on). -/
namespace Go.Eng
open Go
def CutOk (P : Program) (id : Nat) (f : LoopSum) : Prop := ∀ R n body s k (r : R), f R n body s k = some (some r) → ∃ e s', k e s' = some r ∧ ∀ rd, SimC P n rd (.block id body) s e s'
theorem noSumB_ok {P : Program} {id : Nat} : CutOk P id noSum := by intro R n0 b s k r h; cases h
theorem lsumB_ok {P : Program} {n id : Nat} {T : Tm} {body : Code} {fin : List PV → Fin} (hk : T.ok = true) (H : ∀ rd ps e s, (fin ps).pick = some (e, s) → SimC P n rd (.block id body) (T.at ps) e s) : CutOk P id (lsumF n T body fin) := by
  intro R n0 b s k r hr
  unfold lsumF lsumE at hr
  split at hr
  · rename_i hn
    have hn := Nat.eq_of_beq_eq_true hn
    subst hn
    split at hr
    · rename_i ps c hm
      simp only [Option.some.injEq] at hr
      cases hc : codesB ((body, b) :: c) with
      | false => rw [hc] at hr; cases hr
      | true =>
        rw [hc, cond_true] at hr
        rw [codesB_iff] at hc
        have hb : body = b := hc (body, b) (by simp)
        subst hb
        obtain ⟨e, s1, h1, h2⟩ := Fin.run_ok hr
        obtain ⟨ρ, hs⟩ := T.find_ok hm (fun x hx => hc x (by simp [hx])) hk
        exact ⟨_, _, h2, fun rd => SimC.ghost ((H rd ps e s1 h1).pre hs)⟩
    · exact noSumB_ok _ _ _ _ _ _ hr
  · exact noSumB_ok _ _ _ _ _ _ hr
section
variable {R : Type} (P : Program) (C : Oracle) (L : Loops) (N : Nat) (n0 : Nat) (rd : Option Nat) (me : FuncId) (B : Nat → Nat → Option LoopSum)
def topCode : Code → AS → KC R → Option R
  | .seq a b, s, k => topCode a s (fun e s' => match e with
      | .normal => topCode b s' k
      | e => k e s')
  | .block id b, s, k => match B id (firstReg b) with
      | some f => match f R n0 b s k with
        | some o => o
        | none => none
      | none => evalCode P C L N n0 rd me (.block id b) s k
  | c, s, k => evalCode P C L N n0 rd me c s k
end
variable {R : Type} {P : Program} {C : Oracle} {L : Loops} {N : Nat} {n0 : Nat} {rd : Option Nat} {me : FuncId} {B : Nat → Nat → Option LoopSum}
theorem topCode_ok (hC : OracleOk P C) (hm : P.follows .mixedOrders = true) (hl : loopsOk P L) (hB : ∀ id n f, B id n = some f → CutOk P id f) : ∀ {c : Code} {s : AS} {k : KC R} {r : R}, topCode P C L N n0 rd me B c s k = some r → ∃ e s', k e s' = some r ∧ SimC P n0 rd c s e s'
  | .seq x y, s, k, r, hr => by
    unfold topCode at hr
    obtain ⟨e, s1, h1, hsim⟩ := topCode_ok hC hm hl hB hr
    have leave : ∀ (e : XE), e ≠ .normal → SimC P n0 rd x s e s1 → k e s1 = some r → ∃ e s', k e s' = some r ∧ SimC P n0 rd (.seq x y) s e s' := fun e hne hsim hk => by
      refine ⟨e, s1, hk, fun ro E a W hs hro hn => wpIn_seq (wpIn_mono (hsim ro E a W hs hro hn) ?_)⟩
      rintro e' a' W' ⟨rfl, E', hs', ht⟩
      cases e with
      | normal => exact absurd rfl hne
      | exit id => exact ⟨rfl, E', hs', ht⟩
      | ret => exact ⟨rfl, E', hs', ht⟩
    cases e with
    | normal =>
      simp only at h1
      obtain ⟨e2, s2, h2, hsim2⟩ := topCode_ok hC hm hl hB h1
      refine ⟨e2, s2, h2, fun ro E a W hs hro hn => wpIn_seq (wpIn_mono (hsim ro E a W hs hro hn) ?_)⟩
      rintro e' a' W' ⟨rfl, E', hs', ht⟩
      refine wpIn_mono (hsim2 ro E' a' W' hs' (hro.agree ht.agree (Nat.le_refl _)) ht.len) ?_
      rintro e'' a'' W'' ⟨rfl, E'', hs'', ht'⟩
      exact ⟨rfl, E'', hs'', ht.trans ht'⟩
    | exit id => exact leave _ (by simp) hsim h1
    | ret => exact leave _ (by simp) hsim h1
  | .block id b, s, k, r, hr => by
    unfold topCode at hr
    split at hr
    · rename_i f hf
      split at hr
      · rename_i o ho
        subst hr
        obtain ⟨e, s', h1, h2⟩ := hB _ _ _ hf _ _ _ _ _ _ ho
        exact ⟨e, s', h1, h2 rd⟩
      · cases hr
    · exact evalCode_ok hC hm hl hr
  | .skip, s, k, r, hr => evalCode_ok hC hm hl hr
  | .label _, s, k, r, hr => evalCode_ok hC hm hl hr
  | .region _ _ _, s, k, r, hr => evalCode_ok hC hm hl hr
  | .cond _ _ _, s, k, r, hr => evalCode_ok hC hm hl hr
  | .loop _, s, k, r, hr => evalCode_ok hC hm hl hr
  | .rangeFunc _ _ _ _, s, k, r, hr => evalCode_ok hC hm hl hr
  | .exit _, s, k, r, hr => evalCode_ok hC hm hl hr
  | .ret, s, k, r, hr => evalCode_ok hC hm hl hr
  | .scope _, s, k, r, hr => evalCode_ok hC hm hl hr
  | .goto _, s, k, r, hr => evalCode_ok hC hm hl hr
  | .refuse _, s, k, r, hr => evalCode_ok hC hm hl hr
def topFn (P : Program) (C : Oracle) (L : Loops) (N : Nat) (B : Nat → Nat → Option LoopSum) (me : FuncId) (fn : Func) (args : List V) (h : List Blk) (K : V → List Blk → Option R) : Option R :=
  match fn.body with
  | some c => topCode P C L N h.length none me B c ⟨appV args (undefs (fn.ntmps - args.length)), h, []⟩ (fun e s => match e with
    | .exit _ => none
    | _ => takeMarks s.heap s.marks (fun h' => resV P h' s.tmps fn.results.toList (fun l => K (oneRes l) h')))
  | none => none
theorem topFn_ok (hC : OracleOk P C) (hm : P.follows .mixedOrders = true) (hB : ∀ id n f, B id n = some f → CutOk P id f) {f : FuncId} {fn : Func} (hf : P.funcs[f]? = some fn) (hL : loopsOk P L) {args : List V} {h : List Blk} {K : V → List Blk → Option R} {r : R}
    (hr : topFn P C L N B me fn args h K = some r) : ∃ v h', K v h' = some r ∧ FnOK P f args h v h' := by
  unfold topFn at hr
  split at hr
  · rename_i c hc
    obtain ⟨e, s, h1, hsim⟩ := topCode_ok hC hm hL hB hr
    have hne : ∀ id, e ≠ .exit id := fun id he => by subst he; simp at h1
    have h1' : takeMarks s.heap s.marks (fun h' => resV P h' s.tmps fn.results.toList (fun l => K (oneRes l) h')) = some r := by
      cases e with
      | normal => exact h1
      | ret => exact h1
      | exit id => exact absurd rfl (hne id)
    obtain ⟨h', hk', HM⟩ := takeMarks_ok (P := P) (fn := fn) (tmps := s.tmps) h1'
    obtain ⟨l, hk, H⟩ := resV_ok hk'
    refine ⟨oneRes l, h', hk, fun E W hh hin => (callsIn_wide (n := 0)).1 (callsIn_of_wp_marks hf hc trivial ?_)⟩
    have hs : StOk E ⟨appV args (undefs (fn.ntmps - args.length)), h, []⟩ { tmps := (concs E args).toArray ++ Array.replicate (fn.ntmps - (concs E args).toArray.size) undef, defers := [] } W := by
      refine ⟨by simp [appV_eq, undefs_eq, concs_eq], fun i v hi => ?_, rfl, fun _ hb => (by cases hb), hh⟩
      simp only [appV_eq, undefs_eq] at hi
      simp only [concs_eq, List.size_toArray, List.length_map, Array.getElem?_append]
      rcases Nat.lt_or_ge i args.length with hlt | hge
      · rw [List.getElem?_append_left hlt] at hi
        have hv := (List.getElem?_eq_some_iff.1 hi).2
        refine ⟨conc E v, by simp [hlt, hv], VR.of (inSs_get hin hi)⟩
      · rw [List.getElem?_append_right hge] at hi
        have hlt := getElem?_lt hi
        simp at hlt
        have : v = undefV := by
          have := List.mem_of_getElem? hi
          exact (List.mem_replicate.1 this).2
        subst this
        refine ⟨undef, ?_, VR.undef⟩
        rw [if_neg (by omega), Array.getElem?_replicate, if_pos hlt]
    refine wpIn_mono (hsim none E _ W hs rfl (Nat.le_refl _)) ?_
    rintro e' a' W' ⟨rfl, E', hs', ht0⟩
    have ht := ht0.full
    have hleave : LeavesInM (fen none) 0 P fn a'.tmps (EndsIn E W h (oneRes l) h') a'.defers .returning W' := by
      refine HM hs' fun W2 hs2 ht2 => ?_
      obtain ⟨h2, h3⟩ := H E' { tmps := a'.tmps, defers := [] } W2 hs2
      have h4 := oneRes_conc E' l W2 fn a'.tmps h3
      have h5 : inS h'.length (oneRes l) = true := by
        unfold oneRes
        split
        · simpa [inSs] using h2
        · simpa [inS] using h2
      exact ⟨_, h4, _, E', rfl, VR.of h5, hs2.heap, ht.trans ht2⟩
    cases e with
    | normal => exact hleave
    | ret => exact hleave
    | exit id => exact absurd rfl (hne id)
  · cases hr
def findBlock (id n : Nat) : Code → Option Code
  | .seq a b => match findBlock id n a with
    | some c => some c
    | none => findBlock id n b
  | .block i b => match Nat.beq i id && Nat.beq (firstReg b) n with
    | true => some b
    | false => none
  | _ => none
def blockOf (id n : Nat) (fn : Func) : Code := match fn.body with
  | some c => match findBlock id n c with
    | some b => b
    | none => .skip
  | none => .skip
end Go.Eng

/- A slice of structures of three whole numbers that came in: read, and as it was behind the call. -/
namespace Go.Eng
open Go Go.ChangeShapes Go.WideShapes Go.ChangeAt Go.RowKit Go.WideMaps

/-- A structure of three fields of one type. -/
structure TriKey (P : Program) (k q : TypeId) : Prop where
  hu : ∃ fs, P.underlying k = some (.struct fs) ∧ fs.toList.map (fun f => (f.type, f.offset)) = [(q, 0), (q, 1), (q, 2)]
  one : P.cellsOf q = 1
  size : P.cellsOf k = 3
section
variable {H : Type} {enc : TypeId × Value → H} {P : Program} {w : World} {base : Nat} {held : Bool}
theorem trod_three {t q : TypeId} {k : IntKind} (A : TriKey P t q) (he : P.underlying q = some (.int k)) {sp : Nat → Bool} {n : Nat} {cs : List Value} {y : DataW H × List MemPlace} (hl : cs.length = 3) (h : DataW.trod enc P w base sp held n t cs = some y) :
    ∃ x0 x1 x2 : Int, cs = [.int k x0, .int k x1, .int k x2] ∧ (Lit.int k x0).wf = true ∧ (Lit.int k x1).wf = true ∧ (Lit.int k x2).wf = true := by
  match cs, hl with
  | [c0, c1, c2], _ =>
    cases n with
    | zero => simp [DataW.trod] at h
    | succ n =>
      rw [DataW.trod_step] at h
      unfold DataW.trodStep at h
      obtain ⟨fs, hu, hf⟩ := A.hu
      simp only [hu] at h
      rw [if_pos (by rw [A.size]; rfl)] at h
      simp only [Option.map_eq_some_iff] at h
      obtain ⟨xs, hx, e1⟩ := h
      generalize fs.toList = l at hf hx
      have hl3 : l.length = 3 := by have := congrArg List.length hf; simpa using this
      obtain ⟨f0, f1, f2, rfl⟩ : ∃ f0 f1 f2, l = [f0, f1, f2] := by
        match l, hl3 with
        | [f0, f1, f2], _ => exact ⟨f0, f1, f2, rfl⟩
      · simp only [List.map_cons, List.map_nil, List.cons.injEq, Prod.mk.injEq, and_true] at hf
        obtain ⟨⟨a0, b0⟩, ⟨a1, b1⟩, ⟨a2, b2⟩⟩ := hf
        rw [List.mapM_cons, List.mapM_cons, List.mapM_cons, List.mapM_nil] at hx
        simp only [bind, Option.bind_eq_some_iff, pure, Option.some.injEq, a0, a1, a2, b0, b1, b2, A.one] at hx
        obtain ⟨y0, h0, _, ⟨y1, h1, _, ⟨y2, h2, _, rfl, rfl⟩, rfl⟩, rfl⟩ := hx
        obtain ⟨x0, e0, rfl, w0⟩ := DataW.trod_int he h0
        obtain ⟨x1, e1', rfl, w1⟩ := DataW.trod_int he h1
        obtain ⟨x2, e2, rfl, w2⟩ := DataW.trod_int he h2
        simp at e0 e1' e2
        subst e0; subst e1'; subst e2
        exact ⟨x0, x1, x2, rfl, w0, w1, w2⟩
theorem open_tris {t e q : TypeId} {k : IntKind} {fuel : Nat} {cs : List Value} {x : DataW H × List MemPlace} (ht : P.underlying t = some (.slice e)) (A : TriKey P e q) (he : P.underlying q = some (.int k))
    (h : DataW.trod enc P w base (fun _ => true) held fuel t cs = some x) :
    cs = [.slice none 0 0] ∨ ∃ (a : Addr) (len cap : Nat) (zs : List Int), cs = [.slice (some a) len cap] ∧ len ≤ cap ∧ cap ≤ maxLen ∧ zs.length = 3 * cap ∧
      (∀ i, i < zs.length → w.cell? (a.add i) = some (.int k (zs.getD i 0))) ∧ (∀ n ∈ zs, (Lit.int k n).wf = true) := by
  rcases DataW.trod_slice ht h with ⟨h0, _⟩ | ⟨a, len, cap, elems, rest, n, _, rfl, rfl, hb, hl, hm, hlen, hel, hsp, _⟩
  · exact Or.inl h0
  right
  obtain ⟨hrl, hr⟩ := hsp rfl
  have each : ∀ i, i < cap → ∃ y, (w.cells? base (a.add (i * 3)) 3).bind (DataW.trod enc P w base (fun _ => true) held n e) = some y := by
    intro i hi
    rw [A.size] at hel hr
    by_cases h1 : i < len
    · exact ⟨elems[i]'(by omega), by rw [hel i h1, List.getElem?_eq_getElem (by omega)]⟩
    · have := hr (i - len) (by omega)
      rw [show len + (i - len) = i by omega] at this
      exact ⟨rest[i - len]'(by omega), by rw [this, List.getElem?_eq_getElem (by omega)]⟩
  have three : ∀ i, i < cap → ∃ x0 x1 x2 : Int, (w.cell? (a.add (i * 3 + 0)) = some (.int k x0) ∧ w.cell? (a.add (i * 3 + 1)) = some (.int k x1) ∧ w.cell? (a.add (i * 3 + 2)) = some (.int k x2)) ∧
      (Lit.int k x0).wf = true ∧ (Lit.int k x1).wf = true ∧ (Lit.int k x2).wf = true := by
    intro i hi
    obtain ⟨y, hy⟩ := each i hi
    rw [Option.bind_eq_some_iff] at hy
    obtain ⟨c4, hc, ht⟩ := hy
    obtain ⟨hlen4, hcell⟩ : c4.length = 3 ∧ ∀ j, j < 3 → w.cell? ((a.add (i * 3)).add j) = c4[j]? := by
      unfold World.cells? at hc
      split at hc
      · refine ⟨by simpa using mapM_some_length hc, fun j hj => ?_⟩
        exact mapM_some_get hc j j (by simp [hj])
      · cases hc
    obtain ⟨x0, x1, x2, rfl, w0, w1, w2⟩ := trod_three A he hlen4 ht
    have add : ∀ j, (a.add (i * 3)).add j = a.add (i * 3 + j) := fun j => Addr.add_add _ _ _
    refine ⟨x0, x1, x2, ⟨?_, ?_, ?_⟩, w0, w1, w2⟩
    · rw [← add, hcell 0 (by omega)]; rfl
    · rw [← add, hcell 1 (by omega)]; rfl
    · rw [← add, hcell 2 (by omega)]; rfl
  have all : ∀ i, i < 3 * cap → ∃ z : Int, w.cell? (a.add i) = some (.int k z) ∧ (Lit.int k z).wf = true := by
    intro i hi
    obtain ⟨x0, x1, x2, ⟨h0, h1, h2⟩, w0, w1, w2⟩ := three (i / 3) (by omega)
    have hd : i = i / 3 * 3 + i % 3 := by omega
    have hm4 : i % 3 < 3 := by omega
    generalize i / 3 * 3 = p at *
    generalize hr : i % 3 = r at *
    subst hd
    match r, hm4 with
    | 0, _ => exact ⟨x0, h0, w0⟩
    | 1, _ => exact ⟨x1, h1, w1⟩
    | 2, _ => exact ⟨x2, h2, w2⟩
  have list : ∀ m, m ≤ 3 * cap → ∃ zs : List Int, zs.length = m ∧ (∀ i, i < zs.length → w.cell? (a.add i) = some (.int k (zs.getD i 0))) ∧ (∀ n ∈ zs, (Lit.int k n).wf = true) := by
    intro m
    induction m with
    | zero => intro _; exact ⟨[], rfl, fun i hi => by simp at hi, fun n hn => by simp at hn⟩
    | succ m ih =>
      intro hm'
      obtain ⟨zs, h1, h2, h3⟩ := ih (by omega)
      obtain ⟨z, hz, hw⟩ := all m (by omega)
      refine ⟨zs ++ [z], by simp [h1], fun i hi => ?_, fun n hn => ?_⟩
      · rw [List.getD_eq_getElem?_getD]
        rcases Nat.lt_or_ge i zs.length with hlt | hge
        · rw [List.getElem?_append_left hlt, ← List.getD_eq_getElem?_getD]; exact h2 i hlt
        · have : i = m := by rw [List.length_append, List.length_singleton] at hi; omega
          subst this
          rw [List.getElem?_append_right (by omega), h1, Nat.sub_self]
          exact hz
      · rcases List.mem_append.1 hn with hn | hn
        · exact h3 n hn
        · rw [List.mem_singleton] at hn; rw [hn]; exact hw
  obtain ⟨zs, h1, h2, h3⟩ := list (3 * cap) (Nat.le_refl _)
  exact ⟨a, len, cap, zs, rfl, hl, hm, h1, h2, h3⟩
end
theorem holdsTri {W : World} {b off len cap : Nat} {k : IntKind} {xs : List Int} (hx : xs.length = 3 * len) (hc : len ≤ cap) (hcell : ∀ (i : Nat) x, xs[i]? = some x → W.cell? ⟨b, off + i, none⟩ = some (.int k x)) :
    Holds (envS b off len cap) [.rs true 3 (.ints k xs)] W := by
  refine ⟨fun i blk hb => ?_, fun i j x y hi _ hm => ?_⟩
  · cases i with
    | zero =>
      simp only [List.getElem?_cons_zero, Option.some.injEq] at hb
      subst hb
      refine ⟨?_, by omega, by simp [envS, Row.len, hx]; omega, hc, fun h => by simp [envS] at h, fun _ i v hv => ?_⟩
      · rw [inSs_eq, List.all_eq_true]; intro v hv; obtain ⟨z, _, rfl⟩ := List.mem_map.1 hv; rfl
      · simp only [Row.toVs, List.getElem?_map, Option.map_eq_some_iff] at hv
        obtain ⟨z, hz, rfl⟩ := hv
        exact hcell i z hz
    | succ i => simp at hb
  · cases i with
    | zero => simp only [List.getElem?_cons_zero, Option.some.injEq] at hi; subst hi; cases hm
    | succ i => simp at hi
end Go.Eng
