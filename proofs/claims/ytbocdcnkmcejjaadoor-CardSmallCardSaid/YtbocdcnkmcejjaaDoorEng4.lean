/- THE ENGINE, piece 4: an interpreter of the model over abstract values, proved sound. -/
import Derived.Test.YtbocdcnkmcejjaaDoorEng3
import Derived.Test.YtbocdcnkmcejjaaDoorEng1
import Derived.ProofKit
import Derived.LaidMore
import Derived.OpenShut
import Derived.Stop.Joined
/- ENGINE, PART 17c: functions known over heaps of their own: what they read, and the one block that they lay. -/
namespace Go.Eng
open Go

section
variable {R : Type}
theorem locK_bind (x : V) (H : List Blk) (i : Nat) (K : V → List Blk → Option R) : locK x H i K = (locK x H i (fun a b => some (a, b))).bind (fun p => K p.1 p.2) := by
  unfold locK
  simp only [cond_eq_ite]
  repeat' split
  all_goals first
    | rfl
    | simp_all
theorem locN_bind (nr : Option Row) (x : V) (H : List Blk) (i : Nat) (K : V → List Blk → Option R) : locN nr x H i K = (locN nr x H i (fun a b => some (a, b))).bind (fun p => K p.1 p.2) := by
  unfold locN
  split
  · split
    · rfl
    · exact locK_bind x H i K
  · exact locK_bind x H i K
theorem locAs_bind (nr : Option Row) : ∀ (args : List V) (R : Type) (H h : List Blk) (K : List V → List Blk → Option R), locAs nr args H h K = (locAs nr args H h (fun a b => some (a, b))).bind (fun p => K p.1 p.2)
  | [], R, H, h, K => rfl
  | x :: r, R, H, h, K => by
    simp only [locAs]
    rw [locN_bind nr x H h.length (fun x' nb => locAs nr r H (h ++ nb) (fun r' h' => K (x' :: r') h')), locN_bind nr x H h.length (fun x' nb => locAs nr r H (h ++ nb) (fun r' h' => some (x' :: r', h')))]
    cases locN nr x H h.length (fun a b => some (a, b)) with
    | none => rfl
    | some p =>
      simp only [Option.bind_some]
      rw [locAs_bind nr r R H (h ++ p.2) (fun r' h' => K (p.1 :: r') h'), locAs_bind nr r _ H (h ++ p.2) (fun r' h' => some (p.1 :: r', h'))]
      cases locAs nr r H (h ++ p.2) (fun a b => some (a, b)) with
      | none => rfl
      | some q => rfl
def nmVs : List V → List Nat
  | [] => []
  | x :: r => nameOf x ++ nmVs r
theorem locK_nm {x : V} {H H2 : List Blk} {i : Nat} {K : V → List Blk → Option R} (he : ∀ b ∈ nameOf x, H2[b]? = H[b]?) : locK x H2 i K = locK x H i K := by
  cases x
  case gs b => unfold locK; simp only [getB_nm (he b (by simp [nameOf]))]
  case view b l sz2 len => unfold locK; simp only [getB_nm (he b (by simp [nameOf]))]
  case aslice b off len cap => unfold locK; simp only [getB_nm (he b (by simp [nameOf]))]
  all_goals (unfold locK; rfl)
theorem locN_nm {nr : Option Row} {x : V} {H H2 : List Blk} {i : Nat} {K : V → List Blk → Option R} (he : ∀ b ∈ nameOf x, H2[b]? = H[b]?) : locN nr x H2 i K = locN nr x H i K := by
  unfold locN
  split
  · split
    · rfl
    · exact locK_nm he
  · exact locK_nm he
theorem locAs_nm {nr : Option Row} {H H2 : List Blk} : ∀ {args : List V} {h : List Blk} {K : List V → List Blk → Option R}, (∀ b ∈ nmVs args, H2[b]? = H[b]?) → locAs nr args H2 h K = locAs nr args H h K
  | [], h, K, _ => rfl
  | x :: r, h, K, he => by
    simp only [locAs]
    rw [locN_nm (H := H) (fun b hb => he b (by simp [nmVs, hb]))]
    congr 1
    funext x' nb
    exact locAs_nm (fun b hb => he b (by simp [nmVs, hb]))
def hOrcP (nr : FuncId → Option Row) (T : HTab) : Oracle := fun _ t args H K => match t with
  | .fn f => locAs (nr f) args H [] (fun args' h => match T f args' h with
    | some (c, v, nb) => cond c (match nb with
      | [] => match plainV v with
        | true => K v (nmVs args) .none
        | false => none
      | [.grow nn ty sz row] => match v with
        | .gs b => match Nat.beq b h.length && rowPlain row with
          | true => K (.gs H.length) (nmVs args) (.push H.length (.grow nn ty sz row))
          | false => none
        | _ => none
      | nb => match freshBs h.length nb && fromV h.length v with
        | true => K (shV h.length H.length v) [] (.all (H ++ shBs h.length H.length nb))
        | false => none) none
    | none => none)
  | .yield _ => none
/-- What a contract over its own heap gives in the caller's memory. -/
theorem loc_call {P : Program} {T : HTab} (hT : HTabOk P T) {nr : Option Row} {f : FuncId} {args args' : List V} {H h nb : List Blk} {v : V} (hl : locAs nr args H [] (fun a b => some (a, b)) = some (args', h)) (hq : T f args' h = some (true, v, nb)) :
    ∀ E W, Holds E H W → inSs H.length args = true → ∃ E1, Holds E1 h W ∧ (∀ (b : Nat) blk, h[b]? = some blk → blk.mine = false) ∧ Calls P f (concs E args).toArray W (EndsIn E1 W h v (h ++ nb)) := by
  intro E W hh hin
  obtain ⟨a2, h2, hk, HL⟩ := locAs_ok hl
  cases hk
  obtain ⟨E1, _, _, g1, g2, g3, g4⟩ := HL E W hh hin { blk := fun _ => 0, delta := fun _ => 0, len := fun _ => 0, cap := fun _ => 0, isnil := fun _ => false, base := fun _ => none } ⟨fun b blk hb => by simp at hb, fun b b' blk blk' hb => by simp at hb⟩ (fun b blk hb => by simp at hb)
  obtain ⟨_, hfn⟩ := hT f args' h true v nb hq rfl
  have := hfn E1 W g1 g3
  rw [g2] at this
  exact ⟨E1, g1, g4, this⟩
theorem keeps_of {E E' : Env} {h h' : List Blk} {W W' : World} (hm : ∀ (b : Nat) blk, h[b]? = some blk → blk.mine = false) (t : Trans E h W E' h' W') : Keeps W W' := by
  have hB := Trans.below_ro hm t
  exact ⟨hB.block, hB.size, hB.os, hB.tape, hB.output⟩
theorem Keeps.below {W W' : World} (h : Keeps W W') : RowKit.Below W.heap.size W W' := ⟨h.os, h.tape, h.output, h.size, h.block⟩
/-- A block that a call has laid, by its own name. -/
theorem born_blk {E1 E2 E : Env} {h : List Blk} {W W' : World} {nn : Bool} {ty : TypeId} {sz : Nat} {row : Row} (hr : rowPlain row = true) (hm : ∀ (b : Nat) blk, h[b]? = some blk → blk.mine = false)
    (h2 : Holds E2 (h ++ [.grow nn ty sz row]) W') (t : Trans E1 h W E2 (h ++ [.grow nn ty sz row]) W') (n : Nat) :
    (∀ q, BlkOk (E.one n (E2.blk h.length) (E2.delta h.length) (E2.len h.length) (E2.cap h.length) (E2.isnil h.length) (E2.base h.length)) q W' n (.grow nn ty sz row)) ∧
    (liveAt (E.one n (E2.blk h.length) (E2.delta h.length) (E2.len h.length) (E2.cap h.length) (E2.isnil h.length) (E2.base h.length)) n (.grow nn ty sz row) = true → W.heap.size ≤ E2.blk h.length) := by
  have hb : (h ++ [Blk.grow nn ty sz row])[h.length]? = some (.grow nn ty sz row) := by simp
  obtain ⟨hd, _, hz, hl, hcap, hnil, hc⟩ := h2.ok h.length _ hb
  refine ⟨fun q => ⟨by simp [Env.one, hd], (rowPlain_ok hr E E q).1, hz, by simp [Env.one, hl], by simp [Env.one, hcap], fun hn => hnil (by simpa [Env.one] using hn), fun hn => ?_⟩, fun hlv => ?_⟩
  · obtain ⟨fz, spare, hfz, hsp, hcc⟩ := hc (by simpa [Env.one] using hn)
    refine ⟨fz, spare, hfz, by simp only [Env.one, if_true]; exact hsp, ?_⟩
    simp only [Env.one, if_true]
    rw [hcc]
    congr 4
    have hpl := (rowPlain_ok hr E2 (E.one n (E2.blk h.length) (E2.delta h.length) (E2.len h.length) (E2.cap h.length) (E2.isnil h.length) (E2.base h.length)) 0).2
    rw [concs_eq, concs_eq]
    apply List.ext_getElem?
    intro j
    rw [List.getElem?_map, List.getElem?_map]
    cases hj : row.toVs[j]? with
    | none => rfl
    | some u =>
      simp only [Option.map_some]
      exact congrArg some (hpl j u hj)
  · have hlive : liveAt E2 h.length (.grow nn ty sz row) = true := by simpa [liveAt, Env.one] using hlv
    rcases t.mine (E2.blk h.length) ⟨h.length, _, hb, rfl, hlive, rfl⟩ with ⟨b, blk, hb1, hm1, _⟩ | hge
    · rw [hm b blk hb1] at hm1; cases hm1
    · exact hge
/-- Of what a call has laid only the last block is looked at. -/
theorem FnOK.lastAt {P : Program} {f : FuncId} {args : List V} {h h' : List Blk} {j : Nat} {nn : Bool} {ty : TypeId} {sz : Nat} {row : Row} (hk : FnOK P f args h (.gs j) h') (hb : h'[j]? = some (.grow nn ty sz row)) (hr : rowPlain row = true)
    (hm : ∀ (b : Nat) blk, h[b]? = some blk → blk.mine = false) : FnOK P f args h (.gs h.length) (h ++ [.grow nn ty sz row]) := by
  intro E W hh hin
  refine (hk E W hh hin).mono ?_
  rintro e W' ⟨x, E2, rfl, hx, hh2, ht⟩
  obtain ⟨hd, _, hz, hl, hcap, hnil, hc⟩ := hh2.ok j _ hb
  obtain ⟨k1, k2⟩ := hh.below (keeps_of hm ht).below
  have hE := Agree.one E h.length (E2.blk j) (E2.delta j) (E2.len j) (E2.cap j) (E2.isnil j) (E2.base j)
  have hfresh : E2.isnil j = false → W.heap.size ≤ E2.blk j := fun hn => by
    have hlive : liveAt E2 j (.grow nn ty sz row) = true := by simp [liveAt, hn]
    rcases ht.mine (E2.blk j) ⟨_, _, hb, rfl, hlive, rfl⟩ with ⟨b, blk, hb1, hm1, _⟩ | hge
    · rw [hm b blk hb1] at hm1; cases hm1
    · exact hge
  refine ⟨x, _, rfl, .inr ⟨by simp [inS], ?_⟩, Holds.snoc (k1.keep hE fun _ _ => rfl) ⟨by simp [Env.one, hd], (rowPlain_ok hr E E _).1, hz, by simp [Env.one, hl], by simp [Env.one, hcap], fun hn => hnil (by simpa [Env.one] using hn), fun hn => ?_⟩ (fun b y hb1 hl1 hl2' _ he => ?_), ?_⟩
  · rw [(hx.val (by simp)).1]
    simp [conc, Env.one, hd]
  · obtain ⟨fz, spare, hfz, hsp, hcc⟩ := hc (by simpa [Env.one] using hn)
    refine ⟨fz, spare, hfz, by simp only [Env.one, if_true]; exact hsp, ?_⟩
    simp only [Env.one, if_true]
    rw [hcc]
    congr 4
    have hpl := (rowPlain_ok hr E2 (E.one h.length (E2.blk j) (E2.delta j) (E2.len j) (E2.cap j) (E2.isnil j) (E2.base j)) 0).2
    rw [concs_eq, concs_eq]
    apply List.ext_getElem?
    intro j
    rw [List.getElem?_map, List.getElem?_map]
    cases hj : row.toVs[j]? with
    | none => rfl
    | some u =>
      simp only [Option.map_some]
      exact congrArg some (hpl j u hj)
  · have h5 := hfresh (by simpa [liveAt, Env.one] using hl2')
    have h6 := (hh.ok b y hb1).lt (by rw [← liveAt_agree hE (getElem?_lt hb1)]; exact hl1)
    rw [hE.blk _ (getElem?_lt hb1)] at he
    simp only [Env.one, if_true] at he
    omega
  · refine ⟨hE, by simp, fun z hz => ?_, k2.frame, k2.size, k2.os, k2.tape, k2.output⟩
    obtain ⟨b', y, hb1, hm1, hl1, he1⟩ := hz
    rcases getElem?_snoc hb1 with hb1 | ⟨q3, q4⟩
    · have hlt := getElem?_lt hb1
      rw [liveAt_agree hE hlt] at hl1
      rw [hE.blk _ hlt] at he1
      exact .inl ⟨b', y, hb1, hm1, hl1, he1⟩
    · subst q3; subst q4
      simp only [Env.one, if_true] at he1
      have := hfresh (by simpa [liveAt, Env.one] using hl1)
      exact .inr (by omega)
theorem FnOK.last {P : Program} {f : FuncId} {args : List V} {h nb : List Blk} {nn : Bool} {ty : TypeId} {sz : Nat} {row : Row} (hk : FnOK P f args h (.gs (h.length + nb.length)) (h ++ (nb ++ [.grow nn ty sz row]))) (hr : rowPlain row = true)
    (hm : ∀ (b : Nat) blk, h[b]? = some blk → blk.mine = false) : FnOK P f args h (.gs h.length) (h ++ [.grow nn ty sz row]) :=
  hk.lastAt (by rw [← List.append_assoc, List.getElem?_append_right (by simp)]; simp) hr hm
/-- The slice that is handed back, alone. -/
def lastK (v : V) (h : List Blk) : Option (Bool × TypeId × Nat × Row) := match v with
  | .gs b => match getB h b with
    | .grow nn ty sz row => some (nn, ty, sz, row)
    | _ => none
  | _ => none
theorem lastK_fn {P : Program} {f : FuncId} {args : List V} {h h' : List Blk} {v : V} {nn : Bool} {ty : TypeId} {sz : Nat} {row : Row} (hl : lastK v h' = some (nn, ty, sz, row)) (hk : FnOK P f args h v h') (hr : rowPlain row = true)
    (hm : ∀ (b : Nat) blk, h[b]? = some blk → blk.mine = false) : FnOK P f args h (.gs h.length) (h ++ [.grow nn ty sz row]) := by
  unfold lastK at hl
  split at hl
  · split at hl
    · rename_i b nn' ty' sz' row' hb
      simp only [Option.some.injEq, Prod.mk.injEq] at hl
      obtain ⟨rfl, rfl, rfl, rfl⟩ := hl
      exact hk.lastAt (getB_some hb (by simp)) hr hm
    · cases hl
  · cases hl
/-- What a call has laid is not looked at. -/
theorem FnOK.plain {P : Program} {f : FuncId} {args : List V} {h h' : List Blk} {v : V} (hk : FnOK P f args h v h') (hv : plainV v = true) (hm : ∀ (b : Nat) blk, h[b]? = some blk → blk.mine = false) : FnOK P f args h v h := by
  intro E W hh hin
  refine (hk E W hh hin).mono ?_
  rintro e W' ⟨x, E2, rfl, hx, _, ht⟩
  obtain ⟨k1, k2⟩ := hh.below (keeps_of hm ht).below
  refine ⟨x, E, rfl, ?_, k1, k2⟩
  rcases hx with rfl | ⟨_, hx2⟩
  · exact .inl rfl
  · obtain ⟨p1, p2⟩ := plainV_conc (E := E2) (E' := E) (n := h.length) v hv
    exact .inr ⟨p2, by rw [hx2]; exact p1⟩
theorem hOrcP_ok {P : Program} {nr : FuncId → Option Row} {T : HTab} (hT : HTabOk P T) : OracleOk P (hOrcP nr T) := by
  intro R t args H K r hr
  unfold hOrcP at hr
  split at hr
  · rename_i f
    rw [locAs_bind] at hr
    cases hl : locAs (nr f) args H [] (fun a b => some (a, b)) with
    | none => rw [hl] at hr; cases hr
    | some p =>
      obtain ⟨args', h⟩ := p
      rw [hl] at hr
      simp only [Option.bind_some] at hr
      have hl2 : ∀ H2, (∀ b ∈ nmVs args, H2[b]? = H[b]?) → locAs (nr f) args H2 [] (fun a b => some (a, b)) = some (args', h) := fun H2 he => by rw [locAs_nm he]; exact hl
      split at hr
      · rename_i c v nb hq
        cases c with
        | false => cases hr
        | true =>
          rw [cond_true] at hr
          have hent := (hT f args' h true v nb hq rfl).1
          split at hr
          · split at hr
            · rename_i hpv
              refine ⟨v, _, _, hr, fun _ _ => rfl, hent, fun h2 hs => ?_, fun _ _ he => (by cases he)⟩
              intro E W hh hin
              obtain ⟨E1, _, hm, hcall⟩ := loc_call hT (hl2 h2 hs) hq E W hh hin
              refine hcall.mono ?_
              rintro e W' ⟨x, E2, rfl, hx, _, ht⟩
              obtain ⟨k1, k2⟩ := hh.below (keeps_of hm ht).below
              refine ⟨x, E, rfl, ?_, k1, k2⟩
              rcases hx with rfl | ⟨_, hx2⟩
              · exact .inl rfl
              · obtain ⟨p1, p2⟩ := plainV_conc (E := E2) (E' := E) (n := h2.length) v hpv
                exact .inr ⟨p2, by rw [hx2]; exact p1⟩
            · cases hr
          · rename_i nn ty sz row
            split at hr
            · rename_i b
              split at hr
              · rename_i hc
                simp only [Bool.and_eq_true] at hc
                have hbl := Nat.eq_of_beq_eq_true hc.1
                subst hbl
                have key : ∀ h2, (∀ b ∈ nmVs args, h2[b]? = H[b]?) → ∀ n E W, Holds E h2 W → inSs h2.length args = true → Calls P f (concs E args).toArray W (BornEnd E W (.gs n) n (.grow nn ty sz row)) := by
                  intro h2 hs n E W hh hin
                  obtain ⟨E1, _, hm, hcall⟩ := loc_call hT (hl2 h2 hs) hq E W hh hin
                  refine hcall.mono ?_
                  rintro e W' ⟨x, E2, rfl, hx, hh2, ht⟩
                  obtain ⟨q1, q2⟩ := born_blk (E := E) hc.2 hm hh2 ht n
                  refine ⟨_, _, _, _, _, _, ?_, keeps_of hm ht, q1, q2⟩
                  rw [(hx.val (by simp)).1]
                  have hok : BlkOk E2 _ W' h.length (.grow nn ty sz row) := hh2.ok h.length (.grow nn ty sz row) (by simp)
                  have hd : E2.delta h.length = 0 := hok.1
                  simp [conc, Env.one, hd]
                refine ⟨_, _, _, hr, ⟨fun _ _ => rfl, rfl⟩, hent, fun h2 hs => ?_, fun n blk he => ?_⟩
                · intro E W hh hin
                  have hlen : h2.length = H.length := hs.2
                  refine (key h2 hs.1 H.length E W hh hin).mono ?_
                  rintro e W' ⟨k, dl, ln, cp, nl, ba, rfl, hK, q1, q2⟩
                  obtain ⟨k1, k2⟩ := hh.below hK.below
                  rw [← hlen] at q1 q2 ⊢
                  have hE := Agree.one E h2.length k dl ln cp nl ba
                  have hnew : Holds (E.one h2.length k dl ln cp nl ba) (h2 ++ [.grow nn ty sz row]) W' := by
                    refine Holds.snoc (k1.keep hE fun _ _ => rfl) (q1 _) (fun b x hb hl1 hl2' _ he => ?_)
                    have h5 := q2 (by simpa [liveAt] using hl2')
                    have h6 := (hh.ok b x hb).lt (by rw [← liveAt_agree hE (getElem?_lt hb)]; exact hl1)
                    rw [hE.blk _ (getElem?_lt hb)] at he
                    simp only [Env.one, if_true] at he
                    omega
                  refine ⟨_, E.one h2.length k dl ln cp nl ba, rfl, .inr ⟨by simp [inS, HEff.app], rfl⟩, hnew, ?_⟩
                  refine ⟨hE, by simp [HEff.app], fun z hz => ?_, k2.frame, k2.size, k2.os, k2.tape, k2.output⟩
                  obtain ⟨b', y, hb1, hm1, hl1, he1⟩ := hz
                  rcases getElem?_snoc hb1 with hb1 | ⟨q3, q4⟩
                  · have hlt := getElem?_lt hb1
                    rw [liveAt_agree hE hlt] at hl1
                    rw [hE.blk _ hlt] at he1
                    exact .inl ⟨b', y, hb1, hm1, hl1, he1⟩
                  · subst q3; subst q4
                    simp only [Env.one, if_true] at he1
                    have := q2 hl1
                    exact .inr (by omega)
                · cases he
                  exact ⟨fun q hq => by simp [inS, hq], fun h2 hs E W hh hin => key h2 hs H.length E W hh hin⟩
              · cases hr
            · cases hr
          · rename_i nb' _ _
            split at hr
            · rename_i hfr
              simp only [Bool.and_eq_true] at hfr
              refine ⟨_, _, _, hr, rfl, hent, fun h2 hs => ?_, fun _ _ he => (by cases he)⟩
              rw [show h2 = H from hs]
              intro E W hh hin
              obtain ⟨E1, g1, g4, hcall⟩ := loc_call hT hl hq E W hh hin
              refine hcall.mono ?_
              rintro e W' ⟨x, E2, rfl, hx, hh', ht⟩
              obtain ⟨q1, q2⟩ := fresh_holds hh hh' ht g4 hfr.1
              refine ⟨x, _, rfl, ?_, q1, q2⟩
              rcases hx with rfl | ⟨hx1, hx2⟩
              · exact .inl rfl
              · rw [List.length_append] at hx1
                obtain ⟨k1, k2⟩ := conc_sh (AgreeAt.join E E2 h.length H.length nb.length) v hx1 hfr.2
                refine .inr ⟨?_, by rw [hx2, k1]⟩
                simp only [HEff.app, List.length_append, shBs_eq, List.length_map]
                exact k2
            · cases hr
      · cases hr
  · cases hr
end
end Go.Eng

/- ENGINE, PART 19: a function of small numbers, looked at number by number. -/
namespace Go.Eng
open Go
def allN : Nat → (Nat → Bool) → Bool
  | 0, _ => true
  | n + 1, p => p n && allN n p
theorem allN_ok {p : Nat → Bool} : ∀ {n : Nat}, allN n p = true → ∀ i, i < n → p i = true
  | 0, _, i, h => by omega
  | n + 1, h, i, hi => by
    simp only [allN, Bool.and_eq_true] at h
    rcases Nat.lt_or_ge i n with hlt | hge
    · exact allN_ok h.2 i hlt
    · rw [show i = n by omega]; exact h.1
def runB : Option Bool → Bool
  | some b => b
  | none => false
theorem runB_ok {o : Option Bool} (h : runB o = true) : o = some true := by
  cases o with
  | none => cases h
  | some b => cases b with
    | false => cases h
    | true => rfl
def eqS (a b : ByteArray) : Bool := decide (a.data.toList = b.data.toList)
theorem eqS_ok {a b : ByteArray} (h : eqS a b = true) : a = b := by
  simp only [eqS, decide_eq_true_eq] at h
  exact ByteArray.ext (Array.ext' h)
def eqI (a b : Int) : Bool := decide (a = b)
theorem eqI_ok {a b : Int} (h : eqI a b = true) : a = b := of_decide_eq_true h
theorem pure_of_check {P : Program} {C : Oracle} {L : Loops} {N : Nat} {f : FuncId} {fn : Func} {args : List V} {v : V} {chk : V → Bool} (hC : OracleOk P C) (hm : P.follows .mixedOrders = true) (hf : P.funcs[f]? = some fn) (hb : enterB fn = true)
    (hL : loopsOk P L) (h : runB (evalFn P C L N f fn args [] (fun v _ => some (chk v))) = true) (hc : ∀ u, chk u = true → u = v) (ha : plainVs args = true) (hv : plainV v = true) : FnPure P f args v := by
  obtain ⟨v', h', hk, hok⟩ := evalFn_ok hC hm hf hL (runB_ok h)
  simp only [Option.some.injEq] at hk
  rw [hc v' hk] at hok
  exact ⟨.of hf hb, fun h => hok.pure ha hv h⟩
/-- Two results. -/
def chkIS (k : IntKind) (s : ByteArray) (e : Int) : V → Bool
  | .tuple [.str s', .int k' e'] => decide (k = k') && (eqS s' s && eqI e' e)
  | _ => false
theorem chkIS_ok {k : IntKind} {s : ByteArray} {e : Int} {v : V} (h : chkIS k s e v = true) : v = .tuple [.str s, .int k e] := by
  unfold chkIS at h
  split at h
  · simp only [Bool.and_eq_true, decide_eq_true_eq] at h
    rw [h.1, eqS_ok h.2.1, eqI_ok h.2.2]
  · cases h
def chkB (b : Bool) : V → Bool
  | .bool b' => decide (b' = b)
  | _ => false
theorem chkB_ok {b : Bool} {v : V} (h : chkB b v = true) : v = .bool b := by
  unfold chkB at h
  split at h
  · rw [of_decide_eq_true h]
  · cases h
def chkIIB (k : IntKind) (a b : Int) (r : Bool) : V → Bool
  | .tuple [.int k1 a', .int k2 b', .bool r'] => (decide (k = k1) && decide (k = k2)) && (eqI a' a && (eqI b' b && decide (r' = r)))
  | _ => false
theorem chkIIB_ok {k : IntKind} {a b : Int} {r : Bool} {v : V} (h : chkIIB k a b r v = true) : v = .tuple [.int k a, .int k b, .bool r] := by
  unfold chkIIB at h
  split at h
  · simp only [Bool.and_eq_true, decide_eq_true_eq] at h
    obtain ⟨⟨rfl, rfl⟩, h1, h2, h3⟩ := h
    rw [eqI_ok h1, eqI_ok h2, h3]
  · cases h
def chkII (k1 k2 : IntKind) (a b : Int) : V → Bool
  | .tuple [.int k1' a', .int k2' b'] => (decide (k1 = k1') && decide (k2 = k2')) && (eqI a' a && eqI b' b)
  | _ => false
theorem chkII_ok {k1 k2 : IntKind} {a b : Int} {v : V} (h : chkII k1 k2 a b v = true) : v = .tuple [.int k1 a, .int k2 b] := by
  unfold chkII at h
  split at h
  · simp only [Bool.and_eq_true, decide_eq_true_eq] at h
    obtain ⟨⟨rfl, rfl⟩, h1, h2⟩ := h
    rw [eqI_ok h1, eqI_ok h2]
  · cases h
end Go.Eng

/- What a row's listed tables give the engine. -/
namespace Go.Eng
open Go Go.ChangeShapes Go.WideShapes Go.ChangeAt Go.RowKit

section
variable {H : Type} {enc : TypeId × Value → H} {P : Program} {w : World} {base : Nat} {spare : Nat → Bool} {held : Bool}
theorem laid_cells {t e : TypeId} {n fuel : Nat} {cs : List Value} {d : DataW H} {p : List MemPlace} {ls : List Lit} (ht : P.underlying t = some (.array n e)) (hc : P.cellsOf e = 1)
    (h : DataW.trod enc P w base spare held fuel t cs = some (d, p)) (hd : d = .agg (ls.map .lit)) :
    ∃ m, ∀ (i : Nat) (x : Lit), ls[i]? = some x → ∃ q, DataW.trod enc P w base spare held m e ((cs.drop i).take 1) = some (.lit x, q) := by
  obtain ⟨xs, m, rfl, hx, _, hn, hel⟩ := DataW.trod_array ht h
  simp only [Prod.mk.injEq, hd, DataW.agg.injEq] at hx
  refine ⟨m, fun i x hi => ?_⟩
  have hl : ls.length = xs.length := by have := congrArg List.length hx.1; simpa using this
  have hlt : i < n := by rw [← hn, ← hl]; exact getElem?_lt hi
  have := hel i hlt
  rw [hc, Nat.mul_one] at this
  rw [this]
  have h2 := congrArg (fun l => l[i]?) hx.1
  simp only [List.getElem?_map, hi, Option.map_some] at h2
  cases hxi : xs[i]? with
  | none => rw [hxi] at h2; cases h2
  | some y =>
    rw [hxi] at h2
    obtain ⟨y1, y2⟩ := y
    simp only [Option.map_some, Option.some.injEq] at h2
    exact ⟨y2, by rw [h2]⟩
theorem take_one {cs : List Value} {i : Nat} {v : Value} (h : (cs.drop i).take 1 = [v]) : cs[i]? = some v := by
  have := congrArg (fun l => l[0]?) h
  simpa [List.getElem?_take, List.getElem?_drop] using this
/-- A table of strings. -/
theorem laid_strs {t e : TypeId} {n fuel : Nat} {cs : List Value} {d : DataW H} {p : List MemPlace} {ls : List (List UInt8)} (ht : P.underlying t = some (.array n e)) (he : P.underlying e = some .string) (hc : P.cellsOf e = 1)
    (h : DataW.trod enc P w base spare held fuel t cs = some (d, p)) (hd : d = .agg (ls.map fun s => .lit (.string s))) (i : Nat) (x : List UInt8) (hi : ls[i]? = some x) : cs[i]? = some (.string ⟨x.toArray⟩) := by
  obtain ⟨m, H⟩ := laid_cells (ls := ls.map .string) ht hc h (by rw [hd, List.map_map]; rfl)
  obtain ⟨q, hq⟩ := H i (.string x) (by rw [List.getElem?_map, hi]; rfl)
  obtain ⟨s, h1, h2, _⟩ := DataW.trod_string he hq
  simp only [Prod.mk.injEq, DataW.lit.injEq, Lit.string.injEq] at h2
  rw [take_one h1, h2.1]
/-- A table of whole numbers. -/
theorem laid_ints {t e : TypeId} {k : IntKind} {n fuel : Nat} {cs : List Value} {d : DataW H} {p : List MemPlace} {ls : List Int} (ht : P.underlying t = some (.array n e)) (he : P.underlying e = some (.int k)) (hc : P.cellsOf e = 1)
    (h : DataW.trod enc P w base spare held fuel t cs = some (d, p)) (hd : d = .agg (ls.map fun s => .lit (.int k s))) (i : Nat) (x : Int) (hi : ls[i]? = some x) : cs[i]? = some (.int k x) := by
  obtain ⟨m, H⟩ := laid_cells (ls := ls.map (.int k)) ht hc h (by rw [hd, List.map_map]; rfl)
  obtain ⟨q, hq⟩ := H i (.int k x) (by rw [List.getElem?_map, hi]; rfl)
  obtain ⟨s, h1, h2, _⟩ := DataW.trod_int he hq
  simp only [Prod.mk.injEq, DataW.lit.injEq, Lit.int.injEq, true_and] at h2
  rw [take_one h1, h2.1]
end
/-- A table as a block. -/
def envG (g : Nat) : Env := { blk := fun _ => g, delta := fun _ => 0, len := fun _ => 0, cap := fun _ => 0, isnil := fun _ => false, base := fun _ => none }
theorem holdsG {W : World} {g : Nat} {ls : List ByteArray} (h : ∀ (i : Nat) x, ls[i]? = some x → W.cell? ⟨g, i, none⟩ = some (.string x)) : Holds (envG g) [.glob g (.strs ls)] W := by
  refine ⟨fun i blk hb => ?_, fun i j x y hi _ hm => ?_⟩
  · cases i with
    | zero =>
      simp only [List.getElem?_cons_zero, Option.some.injEq] at hb
      subst hb
      refine ⟨rfl, rfl, ?_, fun i v hv => ?_⟩
      · rw [inSs_eq, List.all_eq_true]; intro v hv; obtain ⟨z, _, rfl⟩ := List.mem_map.1 hv; rfl
      · simp only [Row.toVs, List.getElem?_map, Option.map_eq_some_iff] at hv
        obtain ⟨z, hz, rfl⟩ := hv
        have := h i z hz
        simpa [envG, conc] using this
    | succ i => simp at hb
  · cases i with
    | zero => simp only [List.getElem?_cons_zero, Option.some.injEq] at hi; subst hi; cases hm
    | succ i => simp at hi
theorem holdsGI {W : World} {g : Nat} {k : IntKind} {ls : List Int} (h : ∀ (i : Nat) x, ls[i]? = some x → W.cell? ⟨g, i, none⟩ = some (.int k x)) : Holds (envG g) [.glob g (.ints k ls)] W := by
  refine ⟨fun i blk hb => ?_, fun i j x y hi _ hm => ?_⟩
  · cases i with
    | zero =>
      simp only [List.getElem?_cons_zero, Option.some.injEq] at hb
      subst hb
      refine ⟨rfl, rfl, ?_, fun i v hv => ?_⟩
      · rw [inSs_eq, List.all_eq_true]; intro v hv; obtain ⟨z, _, rfl⟩ := List.mem_map.1 hv; rfl
      · simp only [Row.toVs, List.getElem?_map, Option.map_eq_some_iff] at hv
        obtain ⟨z, hz, rfl⟩ := hv
        have := h i z hz
        simpa [envG, conc] using this
    | succ i => simp at hb
  · cases i with
    | zero => simp only [List.getElem?_cons_zero, Option.some.injEq] at hi; subst hi; cases hm
    | succ i => simp at hi
end Go.Eng

/- ENGINE, PART 20: of a function's results no more than a template says. -/
namespace Go.Eng
open Go
theorem FnOK.sub {P : Program} {f : FuncId} {args : List V} {h h' h2 : List Blk} {v v2 : V} {ρ : Nat → Nat} (hk : FnOK P f args h v h') (hs : Sub h.length ρ ⟨[v], h', []⟩ ⟨[v2], h2, []⟩) : FnOK P f args h v2 h2 := by
  intro E W hh hin
  refine (hk E W hh hin).mono ?_
  rintro e w' ⟨x, E', rfl, hx, hh', ht⟩
  refine ⟨x, E'.ren ρ, rfl, ?_, hs.holds hh', ((ht.to (Nat.le_refl _)).weak hs).full⟩
  rcases hs.tmps 0 v2 rfl with rfl | ⟨h1, h2'⟩
  · exact .inl rfl
  · simp only [List.getElem?_cons_zero, Option.some.injEq] at h1
    subst h1
    by_cases ht : v2 = .top
    · exact .inl ht
    · exact .inr ⟨h2', by rw [conc_ren]; exact (hx.val (by cases v2 <;> simp_all [renV])).1⟩
theorem fn_find {P : Program} {C : Oracle} {L : Loops} {N : Nat} {f : FuncId} {fn : Func} {args : List V} {h h2 : List Blk} {v2 : V} {T : Tm} {ps : List PV} {c : List (Code × Code)} (hC : OracleOk P C) (hm : P.follows .mixedOrders = true) (hf : P.funcs[f]? = some fn) (hL : loopsOk P L)
    (hk : T.ok = true) (he : evalFn P C L N f fn args h (fun v h' => T.find h.length ⟨[v], h', []⟩) = some (ps, c)) (hc : codesOk c) (hat : T.at ps = ⟨[v2], h2, []⟩) : FnOK P f args h v2 h2 := by
  obtain ⟨v1, h1, hk1, hok⟩ := evalFn_ok hC hm hf hL he
  obtain ⟨ρ, hs⟩ := T.find_ok hk1 hc hk
  rw [hat] at hs
  exact hok.sub hs
end Go.Eng

/- ENGINE, PART 17e: of what a call has laid only the slice in its answer (a slice and a number) is looked at. -/
namespace Go.Eng
open Go
theorem FnOK.lastAtW {P : Program} {f : FuncId} {args : List V} {h h' : List Blk} {j : Nat} {nn n2 : Bool} (hnn : n2 = true → nn = true) {ty : TypeId} {sz : Nat} {row : Row} {k : IntKind} {z : Int} (hk : FnOK P f args h (.tuple [.gs j, .int k z]) h') (hb : h'[j]? = some (.grow nn ty sz row)) (hr : rowPlain row = true)
    (hm : ∀ (b : Nat) blk, h[b]? = some blk → blk.mine = false) : FnOK P f args h (.tuple [.gs h.length, .int k z]) (h ++ [.grow n2 ty sz row]) := by
  intro E W hh hin
  refine (hk E W hh hin).mono ?_
  rintro e W' ⟨x, E2, rfl, hx, hh2, ht⟩
  obtain ⟨hd, _, hz, hl, hcap, hnil, hc⟩ := hh2.ok j _ hb
  obtain ⟨k1, k2⟩ := hh.below (keeps_of hm ht).below
  have hE := Agree.one E h.length (E2.blk j) (E2.delta j) (E2.len j) (E2.cap j) (E2.isnil j) (E2.base j)
  have hfresh : E2.isnil j = false → W.heap.size ≤ E2.blk j := fun hn => by
    have hlive : liveAt E2 j (.grow nn ty sz row) = true := by simp [liveAt, hn]
    rcases ht.mine (E2.blk j) ⟨_, _, hb, rfl, hlive, rfl⟩ with ⟨b, blk, hb1, hm1, _⟩ | hge
    · rw [hm b blk hb1] at hm1; cases hm1
    · exact hge
  refine ⟨x, _, rfl, .inr ⟨by simp [inS, inSs], ?_⟩, Holds.snoc (k1.keep hE fun _ _ => rfl) ⟨by simp [Env.one, hd], (rowPlain_ok hr E E _).1, hz, by simp [Env.one, hl], by simp [Env.one, hcap], fun hn => ⟨(hnil (by simpa [Env.one] using hn)).1, by
    have h0 := (hnil (by simpa [Env.one] using hn)).2
    cases hx2 : n2 with
    | false => rfl
    | true => rw [hnn hx2] at h0; cases h0⟩, fun hn => ?_⟩ (fun b y hb1 hl1 hl2' _ he => ?_), ?_⟩
  · rw [(hx.val (by simp)).1]
    simp [conc, concs, Env.one, hd]
  · obtain ⟨fz, spare, hfz, hsp, hcc⟩ := hc (by simpa [Env.one] using hn)
    refine ⟨fz, spare, hfz, by simp only [Env.one, if_true]; exact hsp, ?_⟩
    simp only [Env.one, if_true]
    rw [hcc]
    congr 4
    have hpl := (rowPlain_ok hr E2 (E.one h.length (E2.blk j) (E2.delta j) (E2.len j) (E2.cap j) (E2.isnil j) (E2.base j)) 0).2
    rw [concs_eq, concs_eq]
    apply List.ext_getElem?
    intro j
    rw [List.getElem?_map, List.getElem?_map]
    cases hj : row.toVs[j]? with
    | none => rfl
    | some u =>
      simp only [Option.map_some]
      exact congrArg some (hpl j u hj)
  · have h5 := hfresh (by simpa [liveAt, Env.one] using hl2')
    have h6 := (hh.ok b y hb1).lt (by rw [← liveAt_agree hE (getElem?_lt hb1)]; exact hl1)
    rw [hE.blk _ (getElem?_lt hb1)] at he
    simp only [Env.one, if_true] at he
    omega
  · refine ⟨hE, by simp, fun z hz => ?_, k2.frame, k2.size, k2.os, k2.tape, k2.output⟩
    obtain ⟨b', y, hb1, hm1, hl1, he1⟩ := hz
    rcases getElem?_snoc hb1 with hb1 | ⟨q3, q4⟩
    · have hlt := getElem?_lt hb1
      rw [liveAt_agree hE hlt] at hl1
      rw [hE.blk _ hlt] at he1
      exact .inl ⟨b', y, hb1, hm1, hl1, he1⟩
    · subst q3; subst q4
      simp only [Env.one, if_true] at he1
      have := hfresh (by simpa [liveAt, Env.one] using hl1)
      exact .inr (by omega)
theorem FnOK.lastAtT {P : Program} {f : FuncId} {args : List V} {h h' : List Blk} {j : Nat} {nn : Bool} {ty : TypeId} {sz : Nat} {row : Row} {k : IntKind} {z : Int} (hk : FnOK P f args h (.tuple [.gs j, .int k z]) h') (hb : h'[j]? = some (.grow nn ty sz row)) (hr : rowPlain row = true)
    (hm : ∀ (b : Nat) blk, h[b]? = some blk → blk.mine = false) : FnOK P f args h (.tuple [.gs h.length, .int k z]) (h ++ [.grow nn ty sz row]) := hk.lastAtW id hb hr hm
/-- A nil slice in an answer, taken for an empty slice of ours. -/
theorem FnOK.nilT {P : Program} {f : FuncId} {args : List V} {h h' : List Blk} {ty : TypeId} {kk k : IntKind} {z : Int} (hk : FnOK P f args h (.tuple [.flat (.slice none 0 0), .int k z]) h')
    (hm : ∀ (b : Nat) blk, h[b]? = some blk → blk.mine = false) : FnOK P f args h (.tuple [.gs h.length, .int k z]) (h ++ [.grow false ty 1 (.ints kk [])]) := by
  have hk := hk.plain rfl hm
  intro E W hh hin
  refine (hk E W hh hin).mono ?_
  rintro e W' ⟨x, E2, rfl, hx, hh2, ht⟩
  have hg : AllGh [.grow false ty 1 (.ints kk [])] := by
    intro b hb
    rw [List.mem_singleton] at hb
    subst hb
    exact .mk _ _ _ rfl (by omega)
  refine ⟨x, E2.gh h.length, rfl, .inr ⟨by simp [inS, inSs], ?_⟩, gh_holds hh2 hg, ⟨ht.agree.trans (Agree.gh E2 _) (Nat.le_refl _), by simp, fun z hz => ht.mine z (gh_mine hg hz), ht.frame, ht.size, ht.os, ht.tape, ht.output⟩⟩
  rw [(hx.val (by simp)).1]
  simp [conc, concs]
  simp [Env.gh]
end Go.Eng

/- ENGINE, PART 14b: rounds that end in families that depend on the way out. -/
namespace Go.Eng
open Go

/-- Rows of slices of ours, tidied. -/
def tidyB : Blk → Blk
  | .grow nn ty sz row => .grow nn ty sz (tidyR row)
  | b => b
def tidyBs : List Blk → List Blk
  | [] => []
  | b :: r => tidyB b :: tidyBs r
theorem tidyBs_eq : ∀ l : List Blk, tidyBs l = l.map tidyB
  | [] => rfl
  | b :: r => by simp only [tidyBs, List.map_cons, tidyBs_eq r]
def AS.tidy (s : AS) : AS := ⟨s.tmps, tidyBs s.heap, s.marks⟩
theorem tidyR_len (row : Row) : (tidyR row).len = row.len := by rw [Row.len_eq, tidyR_ok, ← Row.len_eq]
theorem tidy_blk {E : Env} {n : Nat} {W : World} {b : Nat} {blk : Blk} (h : BlkOk E n W b blk) : BlkOk E n W b (tidyB blk) := by
  cases blk
  case grow nn ty sz row =>
    simp only [tidyB]
    obtain ⟨h1, h2, h3, h4, h5, h6, h7⟩ := h
    exact ⟨h1, by rw [tidyR_ok]; exact h2, h3, by rw [tidyR_len]; exact h4, h5, fun hn => by rw [tidyR_len]; exact h6 hn, fun hn => by
      obtain ⟨fz, spare, q1, q2, q3⟩ := h7 hn
      exact ⟨fz, spare, by rw [tidyR_len]; exact q1, by rw [tidyR_len]; exact q2, by rw [tidyR_ok]; exact q3⟩⟩
  all_goals exact h
theorem tidy_mine (b : Blk) : (tidyB b).mine = b.mine := by cases b <;> rfl
theorem tidy_live (E : Env) (n : Nat) (b : Blk) : liveAt E n (tidyB b) = liveAt E n b := by cases b <;> rfl
theorem tidy_get {h : List Blk} {b : Nat} {x : Blk} (hx : (tidyBs h)[b]? = some x) : ∃ y, h[b]? = some y ∧ x = tidyB y := by
  rw [tidyBs_eq, List.getElem?_map, Option.map_eq_some_iff] at hx
  obtain ⟨y, h1, h2⟩ := hx
  exact ⟨y, h1, h2.symm⟩
theorem tidyBs_len (h : List Blk) : (tidyBs h).length = h.length := by rw [tidyBs_eq, List.length_map]
theorem tidy_holds {E : Env} {h : List Blk} {W : World} (hh : Holds E h W) : Holds E (tidyBs h) W := by
  refine ⟨fun b blk hb => ?_, fun b b' x x' hb hb' hm hl hl' he => ?_⟩
  · obtain ⟨y, h1, rfl⟩ := tidy_get hb
    rw [tidyBs_len]
    exact tidy_blk (hh.ok b y h1)
  · obtain ⟨y, h1, rfl⟩ := tidy_get hb
    obtain ⟨y', h1', rfl⟩ := tidy_get hb'
    rw [tidy_mine] at hm
    rw [tidy_live] at hl hl'
    exact hh.inj b b' y y' h1 h1' hm hl hl' he
theorem SimC.tidy_post {P : Program} {n0 : Nat} {rd : Option Nat} {c : Code} {s s' : AS} {e : XE} (h : SimC P n0 rd c s e s') : SimC P n0 rd c s e s'.tidy := by
  intro ro E0 a0 W0 hst0 hro hn0
  refine wpIn_mono (h ro E0 a0 W0 hst0 hro hn0) ?_
  rintro e' a W ⟨rfl, E, hst, h2⟩
  refine ⟨rfl, E, ⟨hst.size, fun i v hi => ?_, hst.defers, fun x hx => ?_, tidy_holds hst.heap⟩, ⟨h2.agree, ?_, fun k hk => h2.mine k ?_, h2.frame, h2.size, h2.os, h2.tape, h2.output⟩⟩
  · obtain ⟨x, hx, hv⟩ := hst.slots i v hi
    exact ⟨x, hx, by simp only [AS.tidy, tidyBs_len]; exact hv⟩
  · simp only [AS.tidy, tidyBs_len]; exact hst.scope x hx
  · simp only [AS.tidy, tidyBs_len]; exact h2.len
  · obtain ⟨b, x, hb, q1, q2, q3⟩ := hk
    obtain ⟨y, hy, rfl⟩ := tidy_get hb
    rw [tidy_mine] at q1
    rw [tidy_live] at q2
    exact ⟨b, y, hy, q1, q2, q3⟩
/-- One round: on to T2, or out to T' e; rows tidied. -/
def roundX (P : Program) (C : Oracle) (L : Loops) (N : Nat) (n0 : Nat) (rd : Option Nat) (me : FuncId) (c : Code) (T T2 : Tm) (T' : XE → Tm) (ps : List PV) : Option (XE × List PV × List (Code × Code)) := evalCode P C L N n0 rd me c (T.at ps) (fun e s => match e with
  | .normal => match T2.find n0 (s.tidy.ghost T2) with
    | some a => some (e, a)
    | none => none
  | e => match (T' e).find n0 (s.tidy.ghost (T' e)) with
    | some a => some (e, a)
    | none => none)
theorem roundX_sim {P : Program} {C : Oracle} {L : Loops} {N n0 : Nat} {rd : Option Nat} {me : FuncId} {c : Code} {T T2 : Tm} {T' : XE → Tm} {ps qs : List PV} {e : XE} {l : List (Code × Code)} (hC : OracleOk P C) (hm : P.follows .mixedOrders = true) (hl : loopsOk P L) (hk : T2.ok = true) (hk' : ∀ e, (T' e).ok = true)
    (h : roundX P C L N n0 rd me c T T2 T' ps = some (e, qs, l)) (hc : codesOk l) : (e = .normal → SimC P n0 rd c (T.at ps) e (T2.at qs)) ∧ (e ≠ .normal → SimC P n0 rd c (T.at ps) e ((T' e).at qs)) := by
  obtain ⟨e1, s1, h1, h2⟩ := evalCode_ok hC hm hl h
  have main : ∀ {U : Tm}, U.ok = true → U.find n0 (s1.tidy.ghost U) = some (qs, l) → SimC P n0 rd c (T.at ps) e1 (U.at qs) := fun {U} hU hma => by
    obtain ⟨ρ, hs⟩ := U.find_ok hma hc hU
    exact h2.tidy_post.ghost_post.post hs
  cases e1 with
  | normal =>
    simp only at h1
    split at h1
    · rename_i a ha
      cases h1
      exact ⟨fun _ => main hk ha, fun h => absurd rfl h⟩
    · cases h1
  | _ =>
    simp only at h1
    split at h1
    · rename_i a ha
      cases h1
      exact ⟨fun he => (by cases he), fun _ => main (hk' _) ha⟩
    · cases h1
theorem loop_of_roundsX_n {P : Program} {C : Oracle} {L : Loops} {N n0 : Nat} {rd : Option Nat} {me : FuncId} {c : Code} {T : Tm} {T' : XE → Tm} (hC : OracleOk P C) (hm : P.follows .mixedOrders = true) (hl : loopsOk P L) (hk : T.ok = true) (hk' : ∀ e, (T' e).ok = true)
    {X : Type} (enc : X → List PV) (inv : X → Prop) (μ : X → Nat) (fin : X → XE × List PV)
    (round : ∀ x, inv x → ∃ e qs l, roundX P C L N n0 rd me c T T T' (enc x) = some (e, qs, l) ∧ codesOk l ∧
      ((e = .normal ∧ ∃ y, qs = enc y ∧ inv y ∧ μ y < μ x ∧ fin y = fin x) ∨ (e ≠ .normal ∧ (e, qs) = fin x))) :
    ∀ x, inv x → ∃ n, SimL P n0 rd c n (T.at (enc x)) (fin x).1 ((T' (fin x).1).at (fin x).2) := by
  have key : ∀ m x, μ x = m → inv x → ∃ n, SimL P n0 rd c n (T.at (enc x)) (fin x).1 ((T' (fin x).1).at (fin x).2) := by
    intro m
    induction m using Nat.strongRecOn with
    | _ m ih =>
      intro x hm' hx
      obtain ⟨e, qs, l, h1, h2, h3⟩ := round x hx
      obtain ⟨q1, q2⟩ := roundX_sim hC hm hl hk hk' h1 h2
      rcases h3 with ⟨rfl, y, rfl, hy, hlt, hf⟩ | ⟨hne, hf⟩
      · obtain ⟨n, hn⟩ := ih (μ y) (hm' ▸ hlt) y rfl hy
        rw [hf] at hn
        exact ⟨n + 1, (q1 rfl).step hn⟩
      · rw [← hf]
        exact ⟨1, (q2 hne).leave hne⟩
  exact fun x hx => key _ x rfl hx
theorem loop_peelX {P : Program} {C : Oracle} {L : Loops} {N n0 : Nat} {rd : Option Nat} {me : FuncId} {c : Code} {T T2 : Tm} {T' : XE → Tm} {ps qs : List PV} {l : List (Code × Code)} {e : XE} {s' : AS} {n : Nat} (hC : OracleOk P C) (hm : P.follows .mixedOrders = true) (hl : loopsOk P L) (hk : T2.ok = true) (hk' : ∀ e, (T' e).ok = true)
    (h : roundX P C L N n0 rd me c T T2 T' ps = some (.normal, qs, l)) (hc : codesOk l) (h2 : SimL P n0 rd c n (T2.at qs) e s') : SimC P n0 rd (.loop c) (T.at ps) e s' :=
  (((roundX_sim hC hm hl hk hk' h hc).1 rfl).step h2).loop
theorem loop_leaveX {P : Program} {C : Oracle} {L : Loops} {N n0 : Nat} {rd : Option Nat} {me : FuncId} {c : Code} {T T2 : Tm} {T' : XE → Tm} {ps qs : List PV} {l : List (Code × Code)} {e : XE} (hC : OracleOk P C) (hm : P.follows .mixedOrders = true) (hl : loopsOk P L) (hk : T2.ok = true) (hk' : ∀ e, (T' e).ok = true)
    (h : roundX P C L N n0 rd me c T T2 T' ps = some (e, qs, l)) (hc : codesOk l) (he : e ≠ .normal) : SimC P n0 rd (.loop c) (T.at ps) e ((T' e).at qs) :=
  (((roundX_sim hC hm hl hk hk' h hc).2 he).leave he).loop
end Go.Eng
