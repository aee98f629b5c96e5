/- THE ENGINE, piece 4: an interpreter of the model over abstract values, proved sound. -/
import Derived.Test.YthpdeiolhahobaaDoorEng3
/- ENGINE, PART 17b: functions that return the first part of a slice of ours that they are handed. -/
namespace Go.Eng
open Go

abbrev RTab := FuncId → Option (IntKind × (List Int → Bool) × (List Int → Nat))
def RTabOk (P : Program) (T : RTab) : Prop := ∀ f k c g, T f = some (k, c, g) → Enterable P f ∧ (∀ l, g l ≤ l.length) ∧ ∀ nn l, c l = true → FnOK P f [.gs 0] [.rs nn 1 (.ints k l)] (.view 0 0 1 (g l)) [.rs nn 1 (.ints k l)]
def resOrc (T : RTab) : Oracle := fun _ t args H K => match t with
  | .fn f => match T f with
    | some (k, c, g) => match args with
      | [.gs b] => match getB H b with
        | .grow nn ty sz row => match Nat.beq sz 1, tidyR row with
          | true, .ints k' l => match decide (k' = k) with
            | true => cond (c l) (K (.gs H.length) [] (.all (aAppendA.appB (setB H b .dead) (.grow nn ty 1 (.ints k (List.take (g l) l)))))) none
            | false => none
          | _, _ => none
        | _ => none
      | _ => none
    | none => none
  | .yield _ => none
theorem resOrc_ok {P : Program} {T : RTab} (hT : RTabOk P T) : OracleOk P (resOrc T) := by
  intro R t args h K r hr
  unfold resOrc at hr
  split at hr
  · rename_i f
    split at hr
    · rename_i k c g hf
      obtain ⟨hent, hle, hfn⟩ := hT f k c g hf
      split at hr
      · rename_i b
        split at hr
        · rename_i nn ty sz row hb
          split at hr
          · rename_i k' l hsz htd
            split at hr
            · rename_i hk
              simp only [decide_eq_true_eq] at hk
              subst hk
              have hsz := Nat.eq_of_beq_eq_true hsz
              subst hsz
              have hb := getB_some hb (by simp)
              cases hcl : c l with
              | false => rw [hcl] at hr; cases hr
              | true =>
              rw [hcl, cond_true] at hr
              refine ⟨_, _, _, hr, rfl, hent, fun h2 hs => ?_, fun _ _ he => (by cases he)⟩
              rw [show h2 = h from hs]
              intro E W hh hin
              have hvs : row.toVs = l.map (.int k') := by rw [← tidyR_ok, htd]; rfl
              have hrl : row.len = l.length := by rw [Row.len_eq, hvs, List.length_map]
              obtain ⟨hd, hs0, hz, hl, hcap, hnil, hc⟩ := hh.ok b _ hb
              rw [hrl, Nat.mul_one] at hl
              have h0 : Holds E ([] : List Blk) W := ⟨fun b blk hb => by simp at hb, fun b b' blk blk' hb => by simp at hb⟩
              obtain ⟨q1, q2⟩ := h0.lend (fun b blk hb => by simp at hb) (blk := E.blk b) (delta := E.delta b) (len := E.len b) (cap := E.cap b) (nil := E.isnil b) (ba := E.base b) (nn := nn) (sz := 1) (row := .ints k' l) (by
                refine ⟨rowIn_ok (n := _) (row := .ints k' l) rfl, by omega, by simp [Env.one, Row.len, hl], by simp [Env.one, hcap], fun hn => ?_, fun hn j v hj => ?_⟩
                · simp only [Env.one, if_true, List.length_nil] at hn
                  have := hnil hn
                  exact ⟨by rw [hrl] at this; exact this.1, this.2⟩
                · have hv : v = .int k' ((l[j]?).getD 0) := by
                    simp only [Row.toVs, List.getElem?_map, Option.map_eq_some_iff] at hj
                    obtain ⟨z, h1, h2⟩ := hj
                    rw [h1, ← h2]; rfl
                  have hcell := (hh.cell hb (v := v) (by show row.toVs[j]? = some v; rw [hvs]; exact hj)).1
                  rw [hv] at hcell ⊢
                  simpa [Env.one, conc] using hcell)
              have hcall := hfn nn l hcl (E.one 0 (E.blk b) (E.delta b) (E.len b) (E.cap b) (E.isnil b) (E.base b)) W q1 rfl
              have hargs : concs (E.one 0 (E.blk b) (E.delta b) (E.len b) (E.cap b) (E.isnil b) (E.base b)) [.gs 0] = concs E [.gs b] := by simp [concs, conc, Env.one]
              rw [hargs] at hcall
              refine hcall.mono ?_
              rintro e W' ⟨x, E2, rfl, hx, _, ht⟩
              have hB := Trans.below_ro (fun b' blk' hb' => by
                simp only [List.nil_append] at q2
                exact q2 b' blk' hb') ht
              obtain ⟨k1, k2⟩ := hh.below hB
              have hxe := (hx.val (by simp)).1
              have a1 := ht.agree.blk 0 (by simp)
              have a2 := ht.agree.delta 0 (by simp)
              have a3 := ht.agree.cap 0 (by simp)
              have a4 := ht.agree.isnil 0 (by simp)
              have a5 := ht.agree.base 0 (by simp)
              simp only [Env.one, if_true] at a1 a2 a3 a4 a5
              obtain ⟨_, _, _, _, _, _, hc'⟩ := k1.ok b _ hb
              have happ : aAppendA.appB (setB h b .dead) (.grow nn ty 1 (.ints k' (List.take (g l) l))) = setB h b .dead ++ [.grow nn ty 1 (.ints k' (List.take (g l) l))] := appB_eq _ _
              simp only [HEff.app]
              rw [happ]
              have hkill := k1.kill b
              have hlenk : (setB h b .dead).length = h.length := setB_len _ _ _
              have htl : (List.take (g l) l).length = g l := by rw [List.length_take]; have := hle l; omega
              cases hn : E.isnil b with
              | true =>
                have hl0 : l = [] := List.eq_nil_of_length_eq_zero (by rw [← hrl]; exact (hnil hn).1)
                have hg0 : g l = 0 := by have := hle l; rw [hl0] at this ⊢; simpa using this
                have hnn := (hnil hn).2
                subst hnn
                have hnew := hkill.1.snocA 0 0 0 true (E.base b) (nn := false) (e := ty) (sz := 1) (row := .ints k' (List.take (g l) l)) (by
                  refine ⟨by simp [Env.putA], rowIn_ok (n := _) (row := .ints k' _) rfl, by omega, by simp [Env.putA, Row.len, hg0], by simp [Env.putA], fun _ => ⟨by simp [Row.len, hg0], rfl⟩, fun hf => by simp [Env.putA] at hf⟩) (fun hf => by cases hf)
                rw [hlenk] at hnew
                refine ⟨x, _, rfl, .inr ⟨by simp [inS, hlenk], ?_⟩, hnew, ?_⟩
                · rw [hxe]; simp [conc, Env.putA, a4, a5, hn, hg0]
                · refine ⟨Agree.putA _ _ _ _ _ _ _, by rw [List.length_append, hlenk]; omega, fun z hz => ?_, k2.frame, k2.size, k2.os, k2.tape, k2.output⟩
                  obtain ⟨b', y, hb1, hm1, hl1, he1⟩ := hz
                  rcases getElem?_snoc hb1 with hb1 | ⟨q3, q4⟩
                  · have hlt := getElem?_lt hb1
                    rw [hlenk] at hlt
                    rw [liveAt_agree (Agree.putA _ _ _ _ _ _ _) hlt] at hl1
                    rw [(Agree.putA E h.length 0 0 0 true (E.base b)).blk _ hlt] at he1
                    exact (k2.trans hkill.2).mine z ⟨b', y, hb1, hm1, hl1, he1⟩
                  · rw [hlenk] at q3
                    subst q3; subst q4; simp [liveAt, Env.putA] at hl1
              | false =>
                have hlb : liveAt E b (.grow nn ty 1 row) = true := by simp [liveAt, hn]
                have hlive := kill_live k1 hb rfl hlb
                obtain ⟨fz, spare, hfz, hsp, hcc⟩ := hc' hn
                have hsplit : concs E row.toVs ++ spare = concs E (Row.ints k' (List.take (g l) l)).toVs ++ (concs E ((List.drop (g l) l).map (.int k')) ++ spare) := by
                  rw [hvs, ← List.append_assoc, ← concs_append]
                  congr 2
                  simp only [Row.toVs]
                  rw [← List.map_append, List.take_append_drop]
                have hdl : (concs E ((List.drop (g l) l).map (.int k'))).length = l.length - g l := by rw [concs_eq, List.length_map, List.length_map, List.length_drop]
                have hgl := hle l
                have hnew := hkill.1.snocA (E.blk b) (g l) (E.cap b) false none (nn := nn) (e := ty) (sz := 1) (row := .ints k' (List.take (g l) l)) (by
                  refine ⟨by simp [Env.putA], rowIn_ok (n := _) (row := .ints k' _) rfl, by omega, by simp [Env.putA, Row.len, htl], by simp [Env.putA]; omega, fun hf => by simp [Env.putA] at hf, fun _ => ⟨fz, concs E ((List.drop (g l) l).map (.int k')) ++ spare, fun o ho => hfz o ?_, ?_, ?_⟩⟩
                  · rw [List.length_append, hdl] at ho
                    simp only [Row.len, htl] at ho
                    rw [hrl]; omega
                  · rw [List.length_append, hdl]
                    simp only [Row.len, htl, Env.putA, if_true]
                    rw [hrl] at hsp; omega
                  · simp only [Env.putA, if_true]
                    rw [hcc, hsplit]
                    congr 4
                    simp only [concs_eq, Row.toVs, List.map_map]
                    rfl) (fun _ b' y hb' hl' => hlive b' y hb' hl')
                rw [hlenk] at hnew
                refine ⟨x, _, rfl, .inr ⟨by simp [inS, hlenk], ?_⟩, hnew, ?_⟩
                · rw [hxe]; simp [conc, Env.putA, a1, a2, a3, a4, hn, hd]
                · refine ⟨Agree.putA _ _ _ _ _ _ _, by rw [List.length_append, hlenk]; omega, fun z hz => ?_, k2.frame, k2.size, k2.os, k2.tape, k2.output⟩
                  obtain ⟨b', y, hb1, hm1, hl1, he1⟩ := hz
                  rcases getElem?_snoc hb1 with hb1 | ⟨q3, q4⟩
                  · have hlt := getElem?_lt hb1
                    rw [hlenk] at hlt
                    rw [liveAt_agree (Agree.putA _ _ _ _ _ _ _) hlt] at hl1
                    rw [(Agree.putA E h.length (E.blk b) (g l) (E.cap b) false none).blk _ hlt] at he1
                    exact (k2.trans hkill.2).mine z ⟨b', y, hb1, hm1, hl1, he1⟩
                  · rw [hlenk] at q3
                    subst q3; subst q4
                    simp only [Env.putA, if_true] at he1
                    exact .inl ⟨b, _, hb, rfl, hlb, he1⟩
            · cases hr
          · cases hr
        · cases hr
      · cases hr
    · cases hr
  · cases hr
/-- The whole slice is a first part of itself. -/
theorem FnOK.whole {P : Program} {f : FuncId} {args : List V} {h : List Blk} {nn : Bool} {k : IntKind} {l : List Int} (hf : FnOK P f args h (.gs 0) [.rs nn 1 (.ints k l)]) : FnOK P f args h (.view 0 0 1 l.length) [.rs nn 1 (.ints k l)] := by
  intro E W hh hin
  refine (hf E W hh hin).mono ?_
  rintro e W' ⟨x, E2, rfl, hx, hh2, ht⟩
  obtain ⟨_, _, hl, _, hnil, _⟩ := hh2.ok 0 _ rfl
  refine ⟨x, E2, rfl, .inr ⟨rfl, ?_⟩, hh2, ht⟩
  rw [(hx.val (by simp)).1]
  simp only [Row.len, Nat.mul_one] at hl hnil
  cases hn : E2.isnil 0 with
  | true => simp [conc, hn, (hnil hn).1]
  | false => simp [conc, hn, hl]
/-- One oracle for some functions, another one for the others. -/
def orElse (dom : FuncId → Bool) (A B : Oracle) : Oracle := fun R t args H K => match t with
  | .fn f => cond (dom f) (A R (.fn f) args H K) (B R (.fn f) args H K)
  | .yield b => B R (.yield b) args H K
theorem orElse_ok {P : Program} {dom : FuncId → Bool} {A B : Oracle} (hA : OracleOk P A) (hB : OracleOk P B) : OracleOk P (orElse dom A B) := by
  intro R t args h K r hr
  unfold orElse at hr
  split at hr
  · rename_i f
    cases hd : dom f with
    | true => rw [hd] at hr; exact hA R _ args h K r hr
    | false => rw [hd] at hr; exact hB R _ args h K r hr
  · exact hB R _ args h K r hr
end Go.Eng

/- ENGINE, PART 20: of a function's results no more than a template says. -/
namespace Go.Eng
open Go
theorem FnOK.sub {P : Program} {f : FuncId} {args : List V} {h h' h2 : List Blk} {v v2 : V} {ρ : Nat → Nat} (hk : FnOK P f args h v h') (hs : Sub h.length ρ ⟨[v], h', []⟩ ⟨[v2], h2, []⟩) : FnOK P f args h v2 h2 := by
  intro E W hh hin
  refine (hk E W hh hin).mono ?_
  rintro e w' ⟨x, E', rfl, hx, hh', ht⟩
  refine ⟨x, E'.ren ρ, rfl, ?_, hs.holds hh', ((ht.to (Nat.le_refl _)).weak hs).full⟩
  rcases hs.tmps 0 v2 rfl with rfl | ⟨h1, h2'⟩
  · exact .inl rfl
  · simp only [List.getElem?_cons_zero, Option.some.injEq] at h1
    subst h1
    by_cases ht : v2 = .top
    · exact .inl ht
    · exact .inr ⟨h2', by rw [conc_ren]; exact (hx.val (by cases v2 <;> simp_all [renV])).1⟩
theorem fn_find {P : Program} {C : Oracle} {L : Loops} {N : Nat} {f : FuncId} {fn : Func} {args : List V} {h h2 : List Blk} {v2 : V} {T : Tm} {ps : List PV} {c : List (Code × Code)} (hC : OracleOk P C) (hm : P.follows .mixedOrders = true) (hf : P.funcs[f]? = some fn) (hL : loopsOk P L)
    (hk : T.ok = true) (he : evalFn P C L N f fn args h (fun v h' => T.find h.length ⟨[v], h', []⟩) = some (ps, c)) (hc : codesOk c) (hat : T.at ps = ⟨[v2], h2, []⟩) : FnOK P f args h v2 h2 := by
  obtain ⟨v1, h1, hk1, hok⟩ := evalFn_ok hC hm hf hL he
  obtain ⟨ρ, hs⟩ := T.find_ok hk1 hc hk
  rw [hat] at hs
  exact hok.sub hs
end Go.Eng
