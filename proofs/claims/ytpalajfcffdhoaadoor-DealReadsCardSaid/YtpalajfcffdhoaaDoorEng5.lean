/- THE ENGINE, piece 5: an interpreter of the model over abstract values, proved sound. -/
import Derived.Test.YtpalajfcffdhoaaDoorEng4
/- ENGINE, PART 22: contracts of functions that are handed structures with slices in them, or answer such. -/
namespace Go.Eng
open Go
section
variable {R : Type}
/-- The fields of a structure: slices as blocks of a heap of their own; nr tells for a block's number how a nil slice is written there. -/
def locFs (nr : Nat → Option Row) : List V → List Blk → List Blk → (List V → List Blk → Option R) → Option R
  | [], _, h, K => K [] h
  | x :: r, H, h, K => locN (nr h.length) x H h.length (fun x' nb => locFs nr r H (h ++ nb) (fun r' h' => K (x' :: r') h'))
theorem locFs_ok {nr : Nat → Option Row} {H : List Blk} : ∀ {args : List V} {h : List Blk} {K : List V → List Blk → Option R} {r : R}, locFs nr args H h K = some r → ∃ args' h', K args' h' = some r ∧
    ∀ E W, Holds E H W → inSs H.length args = true → ∀ E0, Holds E0 h W → (∀ (b : Nat) blk, h[b]? = some blk → blk.mine = false) →
      ∃ E1, Agree h.length E0 E1 ∧ h.length ≤ h'.length ∧ Holds E1 h' W ∧ concs E1 args' = concs E args ∧ inSs h'.length args' = true ∧ ∀ (b : Nat) blk, h'[b]? = some blk → blk.mine = false
  | [], h, K, r, hr => ⟨[], h, hr, fun E W hh hs E0 h0 hro => ⟨E0, Agree.refl _ _, Nat.le_refl _, h0, rfl, rfl, hro⟩⟩
  | x :: q, h, K, r, hr => by
    unfold locFs at hr
    obtain ⟨x', nb, h1, H1⟩ := locN_ok hr
    obtain ⟨q', h', h2, H2⟩ := locFs_ok h1
    refine ⟨x' :: q', h', h2, fun E W hh hs E0 h0 hro => ?_⟩
    simp only [inSs, Bool.and_eq_true] at hs
    obtain ⟨E1, a1, b1, c1, d1, e1⟩ := H1 E W hh hs.1 E0 h h0 rfl hro
    obtain ⟨E2, a2, l2, b2, c2, d2, e2⟩ := H2 E W hh hs.2 E1 b1 e1
    have hle : h.length ≤ (h ++ nb).length := by simp
    refine ⟨E2, a1.trans a2 hle, Nat.le_trans hle l2, b2, ?_, ?_, e2⟩
    · simp only [concs]
      rw [conc_agree a2 x' d1, c1, c2]
    · simp only [inSs, Bool.and_eq_true]
      exact ⟨inS_mono l2 x' d1, d2⟩
def locX (nr : Nat → Option Row) : List V → List Blk → List Blk → (List V → List Blk → Option R) → Option R
  | [], _, h, K => K [] h
  | .agg l :: r, H, h, K => locFs nr l H h (fun l' h1 => locX nr r H h1 (fun r' h2 => K (.agg l' :: r') h2))
  | x :: r, H, h, K => locN (nr h.length) x H h.length (fun x' nb => locX nr r H (h ++ nb) (fun r' h' => K (x' :: r') h'))
theorem locX_ok {nr : Nat → Option Row} {H : List Blk} : ∀ {args : List V} {h : List Blk} {K : List V → List Blk → Option R} {r : R}, locX nr args H h K = some r → ∃ args' h', K args' h' = some r ∧
    ∀ E W, Holds E H W → inSs H.length args = true → ∀ E0, Holds E0 h W → (∀ (b : Nat) blk, h[b]? = some blk → blk.mine = false) →
      ∃ E1, Agree h.length E0 E1 ∧ h.length ≤ h'.length ∧ Holds E1 h' W ∧ concs E1 args' = concs E args ∧ inSs h'.length args' = true ∧ ∀ (b : Nat) blk, h'[b]? = some blk → blk.mine = false
  | [], h, K, r, hr => ⟨[], h, hr, fun E W hh hs E0 h0 hro => ⟨E0, Agree.refl _ _, Nat.le_refl _, h0, rfl, rfl, hro⟩⟩
  | x :: q, h, K, r, hr => by
    have main : ∀ {K' : V → List Blk → Option R}, (∀ {x' : V} {h1 : List Blk}, K' x' h1 = locX nr q H h1 (fun r' h2 => K (x' :: r') h2)) →
        (∃ x' h1, K' x' h1 = some r ∧ ∀ E W, Holds E H W → inS H.length x = true → ∀ E0, Holds E0 h W → (∀ (b : Nat) blk, h[b]? = some blk → blk.mine = false) →
          ∃ E1, Agree h.length E0 E1 ∧ h.length ≤ h1.length ∧ Holds E1 h1 W ∧ conc E1 x' = conc E x ∧ inS h1.length x' = true ∧ ∀ (b : Nat) blk, h1[b]? = some blk → blk.mine = false) →
        ∃ args' h', K args' h' = some r ∧ ∀ E W, Holds E H W → inSs H.length (x :: q) = true → ∀ E0, Holds E0 h W → (∀ (b : Nat) blk, h[b]? = some blk → blk.mine = false) →
          ∃ E1, Agree h.length E0 E1 ∧ h.length ≤ h'.length ∧ Holds E1 h' W ∧ concs E1 args' = concs E (x :: q) ∧ inSs h'.length args' = true ∧ ∀ (b : Nat) blk, h'[b]? = some blk → blk.mine = false := by
      intro K' hK' hx
      obtain ⟨x', h1, h2, H1⟩ := hx
      rw [hK'] at h2
      obtain ⟨q', h', h3, H2⟩ := locX_ok h2
      refine ⟨x' :: q', h', h3, fun E W hh hs E0 h0 hro => ?_⟩
      simp only [inSs, Bool.and_eq_true] at hs
      obtain ⟨E1, a1, l1, b1, c1, d1, e1⟩ := H1 E W hh hs.1 E0 h0 hro
      obtain ⟨E2, a2, l2, b2, c2, d2, e2⟩ := H2 E W hh hs.2 E1 b1 e1
      refine ⟨E2, a1.trans a2 l1, Nat.le_trans l1 l2, b2, ?_, ?_, e2⟩
      · simp only [concs]
        rw [conc_agree a2 x' d1, c1, c2]
      · simp only [inSs, Bool.and_eq_true]
        exact ⟨inS_mono l2 x' d1, d2⟩
    have plainCase : locN (nr h.length) x H h.length (fun x' nb => locX nr q H (h ++ nb) (fun r' h' => K (x' :: r') h')) = some r →
        ∃ args' h', K args' h' = some r ∧ ∀ E W, Holds E H W → inSs H.length (x :: q) = true → ∀ E0, Holds E0 h W → (∀ (b : Nat) blk, h[b]? = some blk → blk.mine = false) →
          ∃ E1, Agree h.length E0 E1 ∧ h.length ≤ h'.length ∧ Holds E1 h' W ∧ concs E1 args' = concs E (x :: q) ∧ inSs h'.length args' = true ∧ ∀ (b : Nat) blk, h'[b]? = some blk → blk.mine = false := fun hr => by
      obtain ⟨x', nb, h1, H1⟩ := locN_ok hr
      refine main (K' := fun x' h1 => locX nr q H h1 (fun r' h2 => K (x' :: r') h2)) rfl ⟨x', h ++ nb, h1, fun E W hh hs E0 h0 hro => ?_⟩
      obtain ⟨E1, a1, b1, c1, d1, e1⟩ := H1 E W hh hs E0 h h0 rfl hro
      exact ⟨E1, a1, by simp, b1, c1, d1, e1⟩
    cases x with
    | agg l =>
      unfold locX at hr
      obtain ⟨l', h1, h2, H1⟩ := locFs_ok hr
      refine main (K' := fun x' h1 => locX nr q H h1 (fun r' h2 => K (x' :: r') h2)) rfl ⟨.agg l', h1, h2, fun E W hh hs E0 h0 hro => ?_⟩
      obtain ⟨E1, a1, l1, b1, c1, d1, e1⟩ := H1 E W hh (by simpa [inS] using hs) E0 h0 hro
      exact ⟨E1, a1, l1, b1, by simp only [conc, c1], by simpa [inS] using d1, e1⟩
    | _ => unfold locX at hr; exact plainCase hr
def hOrcA (gl : FuncId → List Nat) (nr : FuncId → Nat → Option Row) (T : HTab) : Oracle := fun _ t args H K => match t with
  | .fn f => locG (gl f) H [] (fun h0 => locX (nr f) args H h0 (fun args' h => match T f args' h with
    | some (c, v, nb) => cond c (match freshBs h.length nb && fromV h.length v with
      | true => K (shV h.length H.length v) [] (.all (H ++ shBs h.length H.length nb))
      | false => none) none
    | none => none))
  | .yield _ => none
theorem hOrcA_ok {P : Program} {gl : FuncId → List Nat} {nr : FuncId → Nat → Option Row} {T : HTab} (hT : HTabOk P T) : OracleOk P (hOrcA gl nr T) := by
  intro R t args H K r hr
  unfold hOrcA at hr
  split at hr
  · rename_i f
    obtain ⟨h0, hr, HG⟩ := locG_ok hr
    obtain ⟨args', h, hk, HL⟩ := locX_ok hr
    split at hk
    · rename_i c v nb hq
      cases c with
      | false => cases hk
      | true =>
        rw [cond_true] at hk
        split at hk
        · rename_i hfr
          simp only [Bool.and_eq_true] at hfr
          obtain ⟨hent, hfn⟩ := hT f args' h true v nb hq rfl
          refine ⟨_, _, _, hk, rfl, hent, fun h2 hs => ?_, fun _ _ he => (by cases he)⟩
          rw [show h2 = H from hs]
          intro E W hh hin
          obtain ⟨E0, _, _, g5, g6⟩ := HG E W hh { blk := fun _ => 0, delta := fun _ => 0, len := fun _ => 0, cap := fun _ => 0, isnil := fun _ => false, base := fun _ => none } ⟨fun b blk hb => by simp at hb, fun b b' blk blk' hb => by simp at hb⟩ (fun b blk hb => by simp at hb)
          obtain ⟨E1, _, _, g1, g2, g3, g4⟩ := HL E W hh hin E0 g5 g6
          have := hfn E1 W g1 g3
          rw [g2] at this
          refine this.mono ?_
          rintro e W' ⟨x, E2, rfl, hx, hh', ht⟩
          obtain ⟨q1, q2⟩ := fresh_holds hh hh' ht g4 hfr.1
          refine ⟨x, _, rfl, ?_, q1, q2⟩
          rcases hx with rfl | ⟨hx1, hx2⟩
          · exact .inl rfl
          · rw [List.length_append] at hx1
            obtain ⟨k1, k2⟩ := conc_sh (AgreeAt.join E E2 h.length H.length nb.length) v hx1 hfr.2
            refine .inr ⟨?_, by rw [hx2, k1]⟩
            simp only [HEff.app, List.length_append, shBs_eq, List.length_map]
            exact k2
        · cases hk
    · cases hk
  · cases hr
/-! ### the same, where the call only reads -/
theorem locFs_bind (nr : Nat → Option Row) : ∀ (args : List V) (R : Type) (H h : List Blk) (K : List V → List Blk → Option R), locFs nr args H h K = (locFs nr args H h (fun a b => some (a, b))).bind (fun p => K p.1 p.2)
  | [], R, H, h, K => rfl
  | x :: r, R, H, h, K => by
    simp only [locFs]
    rw [locN_bind (nr h.length) x H h.length (fun x' nb => locFs nr r H (h ++ nb) (fun r' h' => K (x' :: r') h')), locN_bind (nr h.length) x H h.length (fun x' nb => locFs nr r H (h ++ nb) (fun r' h' => some (x' :: r', h')))]
    cases locN (nr h.length) x H h.length (fun a b => some (a, b)) with
    | none => rfl
    | some p =>
      simp only [Option.bind_some]
      rw [locFs_bind nr r R H (h ++ p.2) (fun r' h' => K (p.1 :: r') h'), locFs_bind nr r _ H (h ++ p.2) (fun r' h' => some (p.1 :: r', h'))]
      cases locFs nr r H (h ++ p.2) (fun a b => some (a, b)) with
      | none => rfl
      | some q => rfl
theorem locX_bind (nr : Nat → Option Row) : ∀ (args : List V) (R : Type) (H h : List Blk) (K : List V → List Blk → Option R), locX nr args H h K = (locX nr args H h (fun a b => some (a, b))).bind (fun p => K p.1 p.2)
  | [], R, H, h, K => rfl
  | x :: r, R, H, h, K => by
    have pc : ∀ (S : Type) (K : List V → List Blk → Option S), locN (nr h.length) x H h.length (fun x' nb => locX nr r H (h ++ nb) (fun r' h' => K (x' :: r') h')) = (locN (nr h.length) x H h.length (fun x' nb => locX nr r H (h ++ nb) (fun r' h' => some (x' :: r', h')))).bind (fun p => K p.1 p.2) := fun S K => by
      rw [locN_bind (nr h.length) x H h.length (fun x' nb => locX nr r H (h ++ nb) (fun r' h' => K (x' :: r') h')), locN_bind (nr h.length) x H h.length (fun x' nb => locX nr r H (h ++ nb) (fun r' h' => some (x' :: r', h')))]
      cases locN (nr h.length) x H h.length (fun a b => some (a, b)) with
      | none => rfl
      | some p =>
        simp only [Option.bind_some]
        rw [locX_bind nr r S H (h ++ p.2) (fun r' h' => K (p.1 :: r') h'), locX_bind nr r _ H (h ++ p.2) (fun r' h' => some (p.1 :: r', h'))]
        cases locX nr r H (h ++ p.2) (fun a b => some (a, b)) with
        | none => rfl
        | some q => rfl
    cases x with
    | agg l =>
      simp only [locX]
      rw [locFs_bind nr l R H h (fun l' h1 => locX nr r H h1 (fun r' h2 => K (.agg l' :: r') h2)), locFs_bind nr l _ H h (fun l' h1 => locX nr r H h1 (fun r' h2 => some (.agg l' :: r', h2)))]
      cases locFs nr l H h (fun a b => some (a, b)) with
      | none => rfl
      | some p =>
        simp only [Option.bind_some]
        rw [locX_bind nr r R H p.2 (fun r' h' => K (.agg p.1 :: r') h'), locX_bind nr r _ H p.2 (fun r' h' => some (.agg p.1 :: r', h'))]
        cases locX nr r H p.2 (fun a b => some (a, b)) with
        | none => rfl
        | some q => rfl
    | _ => simp only [locX]; exact pc R K
def nmX : List V → List Nat
  | [] => []
  | .agg l :: r => nmVs l ++ nmX r
  | x :: r => nameOf x ++ nmX r
theorem locFs_nm {nr : Nat → Option Row} {H H2 : List Blk} : ∀ {args : List V} {h : List Blk} {K : List V → List Blk → Option R}, (∀ b ∈ nmVs args, H2[b]? = H[b]?) → locFs nr args H2 h K = locFs nr args H h K
  | [], h, K, _ => rfl
  | x :: r, h, K, he => by
    simp only [locFs]
    rw [locN_nm (H := H) (fun b hb => he b (by simp [nmVs, hb]))]
    congr 1
    funext x' nb
    exact locFs_nm (fun b hb => he b (by simp [nmVs, hb]))
theorem locX_nm {nr : Nat → Option Row} {H H2 : List Blk} : ∀ {args : List V} {h : List Blk} {K : List V → List Blk → Option R}, (∀ b ∈ nmX args, H2[b]? = H[b]?) → locX nr args H2 h K = locX nr args H h K
  | [], h, K, _ => rfl
  | x :: r, h, K, he => by
    cases x with
    | agg l =>
      simp only [locX]
      rw [locFs_nm (H := H) (fun b hb => he b (by simp [nmX, hb]))]
      congr 1
      funext x' nb
      exact locX_nm (fun b hb => he b (by simp [nmX, hb]))
    | _ =>
      simp only [locX]
      rw [locN_nm (H := H) (fun b hb => he b (by simp [nmX, hb]))]
      congr 1
      funext x' nb
      exact locX_nm (fun b hb => he b (by simp [nmX, hb]))
def hOrcX (nr : FuncId → Nat → Option Row) (T : HTab) : Oracle := fun _ t args H K => match t with
  | .fn f => locX (nr f) args H [] (fun args' h => match T f args' h with
    | some (c, v, nb) => cond c (match nb with
      | [] => match plainV v with
        | true => K v (nmX args) .none
        | false => none
      | nb => match freshBs h.length nb && fromV h.length v with
        | true => K (shV h.length H.length v) [] (.all (H ++ shBs h.length H.length nb))
        | false => none) none
    | none => none)
  | .yield _ => none
theorem locX_call {P : Program} {T : HTab} (hT : HTabOk P T) {nr : Nat → Option Row} {f : FuncId} {args args' : List V} {H h nb : List Blk} {v : V} (hl : locX nr args H [] (fun a b => some (a, b)) = some (args', h)) (hq : T f args' h = some (true, v, nb)) :
    ∀ E W, Holds E H W → inSs H.length args = true → ∃ E1, Holds E1 h W ∧ (∀ (b : Nat) blk, h[b]? = some blk → blk.mine = false) ∧ Calls P f (concs E args).toArray W (EndsIn E1 W h v (h ++ nb)) := by
  intro E W hh hin
  obtain ⟨a2, h2, hk, HL⟩ := locX_ok hl
  cases hk
  obtain ⟨E1, _, _, g1, g2, g3, g4⟩ := HL E W hh hin { blk := fun _ => 0, delta := fun _ => 0, len := fun _ => 0, cap := fun _ => 0, isnil := fun _ => false, base := fun _ => none } ⟨fun b blk hb => by simp at hb, fun b b' blk blk' hb => by simp at hb⟩ (fun b blk hb => by simp at hb)
  obtain ⟨_, hfn⟩ := hT f args' h true v nb hq rfl
  have := hfn E1 W g1 g3
  rw [g2] at this
  exact ⟨E1, g1, g4, this⟩
theorem hOrcX_ok {P : Program} {nr : FuncId → Nat → Option Row} {T : HTab} (hT : HTabOk P T) : OracleOk P (hOrcX nr T) := by
  intro R t args H K r hr
  unfold hOrcX at hr
  split at hr
  · rename_i f
    rw [locX_bind] at hr
    cases hl : locX (nr f) args H [] (fun a b => some (a, b)) with
    | none => rw [hl] at hr; cases hr
    | some p =>
      obtain ⟨args', h⟩ := p
      rw [hl] at hr
      simp only [Option.bind_some] at hr
      have hl2 : ∀ H2, (∀ b ∈ nmX args, H2[b]? = H[b]?) → locX (nr f) args H2 [] (fun a b => some (a, b)) = some (args', h) := fun H2 he => by rw [locX_nm he]; exact hl
      split at hr
      · rename_i c v nb hq
        cases c with
        | false => cases hr
        | true =>
          rw [cond_true] at hr
          have hent := (hT f args' h true v nb hq rfl).1
          split at hr
          · split at hr
            · rename_i hpv
              refine ⟨v, _, _, hr, fun _ _ => rfl, hent, fun h2 hs => ?_, fun _ _ he => (by cases he)⟩
              intro E W hh hin
              obtain ⟨E1, _, hm, hcall⟩ := locX_call hT (hl2 h2 hs) hq E W hh hin
              refine hcall.mono ?_
              rintro e W' ⟨x, E2, rfl, hx, _, ht⟩
              obtain ⟨k1, k2⟩ := hh.below (keeps_of hm ht).below
              refine ⟨x, E, rfl, ?_, k1, k2⟩
              rcases hx with rfl | ⟨_, hx2⟩
              · exact .inl rfl
              · obtain ⟨p1, p2⟩ := plainV_conc (E := E2) (E' := E) (n := h2.length) v hpv
                exact .inr ⟨p2, by rw [hx2]; exact p1⟩
            · cases hr
          · split at hr
            · rename_i hfr
              simp only [Bool.and_eq_true] at hfr
              refine ⟨_, _, _, hr, rfl, hent, fun h2 hs => ?_, fun _ _ he => (by cases he)⟩
              rw [show h2 = H from hs]
              intro E W hh hin
              obtain ⟨E1, g1, g4, hcall⟩ := locX_call hT hl hq E W hh hin
              refine hcall.mono ?_
              rintro e W' ⟨x, E2, rfl, hx, hh', ht⟩
              obtain ⟨q1, q2⟩ := fresh_holds hh hh' ht g4 hfr.1
              refine ⟨x, _, rfl, ?_, q1, q2⟩
              rcases hx with rfl | ⟨hx1, hx2⟩
              · exact .inl rfl
              · rw [List.length_append] at hx1
                obtain ⟨k1, k2⟩ := conc_sh (AgreeAt.join E E2 h.length H.length nb.length) v hx1 hfr.2
                refine .inr ⟨?_, by rw [hx2, k1]⟩
                simp only [HEff.app, List.length_append, shBs_eq, List.length_map]
                exact k2
            · cases hr
      · cases hr
  · cases hr
end
/-! ### what a function answers, matched against a template: nil slices taken for blocks, rows tidied -/
theorem FnOK.ghost {P : Program} {f : FuncId} {args : List V} {h h' : List Blk} {v : V} (T : Tm) (hk : FnOK P f args h v h') : ∀ s, (⟨[v], h', []⟩ : AS).ghost T = s → ∃ v2, s.tmps = [v2] ∧ s.marks = [] ∧ FnOK P f args h v2 s.heap := by
  rintro s rfl
  unfold AS.ghost
  obtain ⟨k1, ⟨dn, k2⟩, k4⟩ := ghA_ok T ⟨[v], h', []⟩
  split
  · exact ⟨v, rfl, rfl, hk⟩
  · rename_i b r hbr
    rw [hbr] at k1 k2 k4
    obtain ⟨k5, k6⟩ := k4.get
    have hlen : ((ghA T ⟨[v], h', []⟩).1 ++ b :: r).length = h'.length + (b :: r).length := by rw [List.length_append, k2.len]
    obtain ⟨v2, hv2⟩ : ∃ v2, (ghS T.blks h'.length T.slots [v] []).1 = [v2] := by
      cases hl : (ghS T.blks h'.length T.slots [v] []).1 with
      | nil => rw [hl] at k5; cases k5
      | cons x q => cases q with
        | nil => exact ⟨x, rfl⟩
        | cons y q => rw [hl] at k5; simp at k5
    refine ⟨v2, hv2, rfl, fun E W hh hin => ?_⟩
    obtain ⟨u, hu, hs⟩ := k6 0 v2 (by rw [hv2]; rfl)
    obtain rfl : v = u := by simpa using hu
    refine (hk E W hh hin).mono ?_
    rintro e W' ⟨x, E2, rfl, hx, hh2, ht⟩
    refine ⟨x, E2.gh h'.length, rfl, ?_, gh_holds2 hh2 k1 k2, ⟨ht.agree.trans ((Agree.gh E2 _).mono ht.len) (Nat.le_refl _), by show h.length ≤ ((ghA T ⟨[v], h', []⟩).1 ++ b :: r).length; rw [hlen]; have := ht.len; omega, fun z hz => ht.mine z (gh_mine2 k1 k2 hz), ht.frame, ht.size, ht.os, ht.tape, ht.output⟩⟩
    rcases hx with rfl | ⟨h1, h2⟩
    · exact .inl (hs.1 rfl)
    · obtain ⟨h3, h4⟩ := hs.2 E2 h1
      exact .inr ⟨by show inS ((ghA T ⟨[v], h', []⟩).1 ++ b :: r).length v2 = true; rw [hlen]; exact h3, by rw [h2, h4]⟩
theorem FnOK.tidy {P : Program} {f : FuncId} {args : List V} {h h' : List Blk} {v : V} (hk : FnOK P f args h v h') : FnOK P f args h v (tidyBs h') := by
  intro E W hh hin
  refine (hk E W hh hin).mono ?_
  rintro e W' ⟨x, E2, rfl, hx, hh2, ht⟩
  refine ⟨x, E2, rfl, by rw [tidyBs_len]; exact hx, tidy_holds hh2, ⟨ht.agree, by rw [tidyBs_len]; exact ht.len, fun k hk => ht.mine k ?_, ht.frame, ht.size, ht.os, ht.tape, ht.output⟩⟩
  obtain ⟨b, y, hb, q1, q2, q3⟩ := hk
  obtain ⟨y', hy, rfl⟩ := tidy_get hb
  rw [tidy_mine] at q1
  rw [tidy_live] at q2
  exact ⟨b, y', hy, q1, q2, q3⟩
/-- The answer of a function as an instance of a template. -/
def ansT (T : Tm) (n : Nat) (v : V) (h' : List Blk) : Option (List PV × List (Code × Code)) := T.find n ((⟨[v], tidyBs h', []⟩ : AS).ghost T)
theorem fn_ans {P : Program} {C : Oracle} {L : Loops} {N : Nat} {f : FuncId} {fn : Func} {args : List V} {h h2 : List Blk} {v2 : V} {T : Tm} {ps : List PV} {c : List (Code × Code)} (hC : OracleOk P C) (hm : P.follows .mixedOrders = true) (hf : P.funcs[f]? = some fn) (hL : loopsOk P L)
    (hk : T.ok = true) (he : evalFn P C L N f fn args h (ansT T h.length) = some (ps, c)) (hc : codesOk c) (hat : T.at ps = ⟨[v2], h2, []⟩) : FnOK P f args h v2 h2 := by
  obtain ⟨v1, h1, hk1, hok⟩ := evalFn_ok hC hm hf hL he
  obtain ⟨v3, e1, e2, hok3⟩ := hok.tidy.ghost T _ rfl
  unfold ansT at hk1
  generalize hs : (⟨[v1], tidyBs h1, []⟩ : AS).ghost T = s at hk1 e1 e2 hok3
  obtain ⟨ρ, hs2⟩ := T.find_ok hk1 hc hk
  obtain ⟨st, sh, sm⟩ := s
  dsimp only at e1 e2 hok3
  subst e1; subst e2
  rw [hat] at hs2
  exact hok3.sub hs2
/-! ### slices that came in: not nil, or not known -/
def softB : Blk → Blk
  | .rs _ sz row => .rs false sz row
  | b => b
theorem softB_mine (b : Blk) : (softB b).mine = b.mine := by cases b <;> rfl
theorem softB_live (E : Env) (n : Nat) (b : Blk) : liveAt E n (softB b) = liveAt E n b := by cases b <;> rfl
theorem softB_ok {E : Env} {n b : Nat} {W : World} {x : Blk} (h : BlkOk E n W b x) : BlkOk E n W b (softB x) := by
  cases x
  case rs nn sz row => exact ⟨h.1, h.2.1, h.2.2.1, h.2.2.2.1, fun hi => ⟨(h.2.2.2.2.1 hi).1, rfl⟩, h.2.2.2.2.2⟩
  all_goals exact h
theorem softB_back {E E' : Env} {n m b : Nat} {W W' : World} {x : Blk} (h0 : BlkOk E n W b x) (he : E'.isnil b = E.isnil b) (h : BlkOk E' m W' b (softB x)) : BlkOk E' m W' b x := by
  cases x
  case rs nn sz row => exact ⟨h.1, h.2.1, h.2.2.1, h.2.2.2.1, fun hi => ⟨(h.2.2.2.2.1 hi).1, (h0.2.2.2.2.1 (he ▸ hi)).2⟩, h.2.2.2.2.2⟩
  all_goals exact h
theorem soft_holds {E : Env} {h : List Blk} {W : World} (hh : Holds E h W) : Holds E (h.map softB) W := by
  refine ⟨fun b y hb => ?_, fun b b' y y' hb hb' hm hl hl' he => ?_⟩
  · rw [List.getElem?_map, Option.map_eq_some_iff] at hb
    obtain ⟨x, hx, rfl⟩ := hb
    rw [List.length_map]
    exact softB_ok (hh.ok b x hx)
  · rw [List.getElem?_map, Option.map_eq_some_iff] at hb hb'
    obtain ⟨x, hx, rfl⟩ := hb
    obtain ⟨x', hx', rfl⟩ := hb'
    rw [softB_mine] at hm
    rw [softB_live] at hl hl'
    exact hh.inj b b' x x' hx hx' hm hl hl' he
/-- A contract that does not ask whether a slice that came in is nil serves where it is known not to be. -/
theorem FnOK.hard {P : Program} {f : FuncId} {args : List V} {h0 h1 nb : List Blk} {v : V} (hs : h1.map softB = h0) (hk : FnOK P f args h0 v (h0 ++ nb)) : FnOK P f args h1 v (h1 ++ nb) := by
  have hlen : h0.length = h1.length := by rw [← hs, List.length_map]
  intro E W hh hin
  have hh0 : Holds E h0 W := by rw [← hs]; exact soft_holds hh
  refine (hk E W hh0 (by rw [hlen]; exact hin)).mono ?_
  rintro e W' ⟨x, E', rfl, hx, hh', ht⟩
  have hl2 : (h1 ++ nb).length = (h0 ++ nb).length := by simp [hlen]
  have old : ∀ {b : Nat} {y : Blk}, (h1 ++ nb)[b]? = some y → ∃ y0, (h0 ++ nb)[b]? = some y0 ∧ y0.mine = y.mine ∧ (∀ F, liveAt F b y0 = liveAt F b y) ∧ BlkOk E' (h1 ++ nb).length W' b y := by
    intro b y hb
    rcases Nat.lt_or_ge b h1.length with hlt | hge
    · rw [List.getElem?_append_left hlt] at hb
      have hb0 : h0[b]? = some (softB y) := by rw [← hs, List.getElem?_map, hb]; rfl
      have hb1 : (h0 ++ nb)[b]? = some (softB y) := by rw [List.getElem?_append_left (by omega)]; exact hb0
      refine ⟨softB y, hb1, softB_mine y, fun F => softB_live F b y, ?_⟩
      have := hh'.ok b _ hb1
      rw [← hl2] at this
      exact softB_back (hh.ok b y hb) (ht.agree.isnil b (by omega)) this
    · rw [List.getElem?_append_right hge] at hb
      have hb1 : (h0 ++ nb)[b]? = some y := by rw [List.getElem?_append_right (by omega), hlen]; exact hb
      refine ⟨y, hb1, rfl, fun _ => rfl, ?_⟩
      have := hh'.ok b _ hb1
      rw [← hl2] at this
      exact this
  refine ⟨x, E', rfl, by rw [hl2]; exact hx, ⟨fun b y hb => ?_, fun b b' y y' hb hb' hm hl hl' he => ?_⟩, ⟨by rw [← hlen]; exact ht.agree, by rw [hl2, ← hlen]; exact ht.len, fun k hk2 => ?_, fun k hk2 hn => ht.frame k hk2 fun hm => hn ?_, ht.size, ht.os, ht.tape, ht.output⟩⟩
  · obtain ⟨_, _, _, _, h4⟩ := old hb
    exact h4
  · obtain ⟨z, h1', h2, h3, _⟩ := old hb
    obtain ⟨z', g1, g2, g3, _⟩ := old hb'
    exact hh'.inj b b' z z' h1' g1 (h2.trans hm) ((h3 E').trans hl) ((g3 E').trans hl') he
  · obtain ⟨b, y, hb, hm, hl, he⟩ := hk2
    obtain ⟨z, h1', h2, h3, _⟩ := old hb
    rcases ht.mine k ⟨b, z, h1', h2.trans hm, (h3 E').trans hl, he⟩ with ⟨b2, x2, q1, q2, q3, q4⟩ | hge
    · rw [← hs, List.getElem?_map, Option.map_eq_some_iff] at q1
      obtain ⟨w, hw, rfl⟩ := q1
      rw [softB_mine] at q2
      rw [softB_live] at q3
      exact .inl ⟨b2, w, hw, q2, q3, q4⟩
    · exact .inr hge
  · obtain ⟨b2, x2, q1, q2, q3, q4⟩ := hm
    rw [← hs, List.getElem?_map, Option.map_eq_some_iff] at q1
    obtain ⟨w, hw, rfl⟩ := q1
    rw [softB_mine] at q2
    rw [softB_live] at q3
    exact ⟨b2, w, hw, q2, q3, q4⟩
end Go.Eng
