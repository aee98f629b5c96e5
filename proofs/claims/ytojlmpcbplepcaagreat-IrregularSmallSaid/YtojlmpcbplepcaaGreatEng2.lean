/- THE ENGINE, piece 2: an interpreter of the model over abstract values, proved sound. -/
import Derived.Test.YtojlmpcbplepcaaGreatEng1
import Derived.Laws.Cover3
/- ENGINE, PART 5k: append that keeps the old slice: it is lent to the new one. -/
namespace Go.Eng
open Go
theorem lent_add {E E' : Env} {hx : List Blk} {W W' : World} {b e sz : Nat} {nn : Bool} {row row' : Row} (hh : Holds E hx W) (hbk : hx[b]? = some (.grow nn e sz row))
    (q1 : Holds E' (setB hx b .dead ++ [.grow nn e sz row']) W') (q2 : Trans E hx W E' (setB hx b .dead ++ [.grow nn e sz row']) W')
    (hinfo : E.isnil b = true ∨ (E'.isnil hx.length = false ∧ E'.blk hx.length = E.blk b ∧ E'.cap hx.length = E.cap b) ∨ (E.isnil b = false ∧ W'.heap[E.blk b]? = W.heap[E.blk b]? ∧ E'.blk hx.length ≠ E.blk b)) :
    ∃ E'', Agree (hx.length + 1) E' E'' ∧ Holds E'' ((setB hx b .dead ++ [.grow nn e sz row']) ++ [.lent b hx.length nn e sz row]) W' ∧ Trans E hx W E'' ((setB hx b .dead ++ [.grow nn e sz row']) ++ [.lent b hx.length nn e sz row]) W' := by
  have hlt := getElem?_lt hbk
  have hlen : (setB hx b .dead ++ [Blk.grow nn e sz row']).length = hx.length + 1 := by rw [List.length_append, setB_len]; rfl
  obtain ⟨hd, hs, hz, hl, hc, hnil, hcells⟩ := hh.ok b _ hbk
  have aE := q2.agree
  -- the new block's place, with or without memory of its own
  have main : ∀ nil : Bool, (E.isnil b = false → (nil = true ∧ E'.isnil hx.length = false ∧ E.blk b = E'.blk hx.length ∧ E.cap b = E'.cap hx.length) ∨ nil = false) → (nil = false → E.isnil b = false ∧ W'.heap[E.blk b]? = W.heap[E.blk b]? ∧ E'.blk hx.length ≠ E.blk b) →
      ∃ E'', Agree (hx.length + 1) E' E'' ∧ Holds E'' ((setB hx b .dead ++ [.grow nn e sz row']) ++ [.lent b hx.length nn e sz row]) W' ∧ Trans E hx W E'' ((setB hx b .dead ++ [.grow nn e sz row']) ++ [.lent b hx.length nn e sz row]) W' := by
    intro nil h1 h2
    have hE : Agree (hx.length + 1) E' (E'.putA (hx.length + 1) (E.blk b) 0 0 nil none) := Agree.putA _ _ _ _ _ _ _
    have aT := aE.trans hE (by omega)
    have hlive : nil = false → liveAt E b (.grow nn e sz row) = true := fun h => by simp [liveAt, (h2 h).1]
    refine ⟨_, hE, ?_, ?_⟩
    · refine Holds.snoc (q1.keep (by rw [hlen]; exact hE) fun _ _ => rfl) ?_ ?_
      · rw [hlen]
        refine ⟨by omega, by omega, inSs_mono (by omega) _ hs, by rw [aT.delta b hlt]; exact hd, hz, by rw [aT.len b hlt]; exact hl, by rw [aT.len b hlt, aT.cap b hlt]; exact hc, fun h => hnil (by rw [← aT.isnil b hlt]; exact h), fun h => ?_, fun h => ?_⟩
        · rw [aT.isnil b hlt] at h
          have n1 : (E'.putA (hx.length + 1) (E.blk b) 0 0 nil none).isnil (hx.length + 1) = nil := by simp [Env.putA]
          have n2 : (E'.putA (hx.length + 1) (E.blk b) 0 0 nil none).blk (hx.length + 1) = E.blk b := by simp [Env.putA]
          rw [aT.blk b hlt, aT.cap b hlt, n1, n2, hE.isnil hx.length (by omega), hE.blk hx.length (by omega), hE.cap hx.length (by omega)]
          rcases h1 h with ⟨k1, k2, k3, k4⟩ | k1
          · exact .inl ⟨k1, k2, k3, k4⟩
          · exact .inr ⟨k1, rfl⟩
        · have h : nil = false := by simpa [Env.putA] using h
          obtain ⟨k1, k2, _⟩ := h2 h
          obtain ⟨fz, spare, m1, m2, m3⟩ := hcells k1
          refine ⟨fz, spare, m1, by rw [aT.cap b hlt]; exact m2, ?_⟩
          rw [show (E'.putA (hx.length + 1) (E.blk b) 0 0 nil none).blk (hx.length + 1) = E.blk b by simp [Env.putA], k2, concs_agree aT _ hs]
          exact m3
      · intro b' y hb' hl' hl2 _ he
        rw [hlen] at he hl2
        have h : nil = false := by simpa [liveAt, Env.putA] using hl2
        obtain ⟨k1, k2, k3⟩ := h2 h
        have hlt' := getElem?_lt hb'
        rw [hlen] at hlt'
        rw [liveAt_agree hE hlt'] at hl'
        rw [hE.blk b' hlt', show (E'.putA (hx.length + 1) (E.blk b) 0 0 nil none).blk (hx.length + 1) = E.blk b by simp [Env.putA]] at he
        rcases getElem?_snoc hb' with hb2 | ⟨r1, r2⟩
        · have hlt2 := getElem?_lt hb2
          rw [setB_len] at hlt2
          rw [liveAt_agree aE hlt2] at hl'
          rw [aE.blk b' hlt2] at he
          exact kill_live hh hbk rfl (hlive h) b' y hb2 hl' he
        · rw [setB_len] at r1
          subst r1
          exact k3 he
    · refine ⟨aT, by rw [List.length_append, hlen]; simp; omega, fun k hk => ?_, q2.frame, q2.size, q2.os, q2.tape, q2.output⟩
      obtain ⟨b', y, hb', hm', hl', he'⟩ := hk
      rcases getElem?_snoc hb' with hb2 | ⟨r1, r2⟩
      · have hlt2 := getElem?_lt hb2
        rw [hlen] at hlt2
        rw [liveAt_agree hE hlt2] at hl'
        rw [hE.blk b' hlt2] at he'
        exact q2.mine k ⟨b', y, hb2, hm', hl', he'⟩
      · rw [hlen] at r1
        subst r1; subst r2
        have h : nil = false := by simpa [liveAt, Env.putA] using hl'
        rw [show (E'.putA (hx.length + 1) (E.blk b) 0 0 nil none).blk (hx.length + 1) = E.blk b by simp [Env.putA]] at he'
        exact .inl ⟨b, _, hbk, rfl, hlive h, he'⟩
  rcases hinfo with h | ⟨k1, k2, k3⟩ | ⟨k1, k2, k3⟩
  · exact main true (fun h' => by rw [h] at h'; cases h') (fun h' => by cases h')
  · exact main true (fun _ => .inl ⟨rfl, k1, k2.symm, k3.symm⟩) (fun h' => by cases h')
  · exact main false (fun _ => .inr rfl) (fun _ => ⟨k1, k2, k3⟩)
/-- The old slice comes back: the new one is given up. -/
def reviveH (h : List Blk) (b q n : Nat) (blk : Blk) : List Blk := setB (setB (setB h n .dead) q .dead) b blk
theorem setB_at {h : List Blk} {b : Nat} {x : Blk} (hb : b < h.length) {i : Nat} {y : Blk} (hy : (setB h b x)[i]? = some y) : (i = b ∧ y = x) ∨ (i ≠ b ∧ h[i]? = some y) := by
  rw [setB_eq] at hy
  by_cases e : i = b
  · subst e
    rw [List.getElem?_set_self hb] at hy
    exact .inl ⟨rfl, (Option.some.inj hy).symm⟩
  · rw [List.getElem?_set_ne (Ne.symm e)] at hy
    exact .inr ⟨e, hy⟩
theorem revive_ok {E : Env} {h : List Blk} {W : World} {b q n ty sz : Nat} {nn nn2 : Bool} {row row' : Row} {tl : List V} (hh : Holds E h W) (hq : h[q]? = some (.lent b n nn ty sz row)) (hn : h[n]? = some (.grow nn2 ty sz row'))
    (hpre : row'.toVs = row.toVs ++ tl) (hb : h[b]? = some .dead) : Holds E (reviveH h b q n (.grow nn ty sz row)) W ∧ Trans E h W E (reviveH h b q n (.grow nn ty sz row)) W := by
  obtain ⟨hbl, hnl, hs, hd, hz, hl, hc, hnil, hor, hcell⟩ := hh.ok q _ hq
  obtain ⟨hd', hs', hz', hl', hc', hnil', hcell'⟩ := hh.ok n _ hn
  have hql := getElem?_lt hq
  have cas : ∀ {i y}, (reviveH h b q n (.grow nn ty sz row))[i]? = some y → (i = b ∧ y = .grow nn ty sz row) ∨ y = .dead ∨ (i ≠ b ∧ i ≠ q ∧ i ≠ n ∧ h[i]? = some y) := fun {i y} hy => by
    unfold reviveH at hy
    rcases setB_at (by rw [setB_len, setB_len]; exact hbl) hy with h1 | ⟨e1, h1⟩
    · exact .inl h1
    · rcases setB_at (by rw [setB_len]; exact hql) h1 with ⟨_, h2⟩ | ⟨e2, h2⟩
      · exact .inr (.inl h2)
      · rcases setB_at hnl h2 with ⟨_, h3⟩ | ⟨e3, h3⟩
        · exact .inr (.inl h3)
        · exact .inr (.inr ⟨e1, e2, e3, h3⟩)
  have hlen : (reviveH h b q n (.grow nn ty sz row)).length = h.length := by unfold reviveH; rw [setB_len, setB_len, setB_len]
  -- whose memory b's is
  have own : E.isnil b = false → (liveAt E n (.grow nn2 ty sz row') = true ∧ E.blk n = E.blk b) ∨ (liveAt E q (.lent b n nn ty sz row) = true ∧ E.blk q = E.blk b) := fun hb0 => by
    rcases hor hb0 with ⟨_, k2, k3, _⟩ | ⟨k1, k2⟩
    · exact .inl ⟨by simp [liveAt, k2], k3.symm⟩
    · exact .inr ⟨by simp [liveAt, k1], k2.symm⟩
  refine ⟨⟨fun i y hy => ?_, fun i i' y y' hy hy' hm hl1 hl2 he => ?_⟩, ⟨Agree.refl _ _, by rw [hlen]; exact Nat.le_refl _, fun k hk => .inl ?_, fun _ _ _ => rfl, Nat.le_refl _, rfl, rfl, rfl⟩⟩
  · rw [hlen]
    rcases cas hy with ⟨rfl, rfl⟩ | rfl | ⟨_, _, _, h1⟩
    · refine ⟨hd, hs, hz, hl, hc, hnil, fun hb0 => ?_⟩
      rcases hor hb0 with ⟨_, k2, k3, k4⟩ | ⟨k1, k2⟩
      · obtain ⟨fz, spare, m1, m2, m3⟩ := hcell' k2
        have hrl : row'.len = row.len + tl.length := by rw [Row.len_eq, hpre, List.length_append, Row.len_eq]
        refine ⟨fz, concs E tl ++ spare, ?_, ?_, ?_⟩
        · rw [List.length_append, concs_eq, List.length_map, ← Nat.add_assoc, ← hrl]; exact m1
        · rw [List.length_append, concs_eq, List.length_map, ← Nat.add_assoc, ← hrl, m2, k4]
        · rw [k3, m3, hpre, concs_append, List.append_assoc]
      · obtain ⟨fz, spare, m1, m2, m3⟩ := hcell k1
        exact ⟨fz, spare, m1, m2, by rw [k2]; exact m3⟩
    · trivial
    · exact hh.ok i y h1
  · rcases cas hy with ⟨rfl, rfl⟩ | rfl | ⟨e1, e2, e3, h1⟩
    · rcases cas hy' with ⟨rfl, rfl⟩ | rfl | ⟨f1, f2, f3, h2⟩
      · rfl
      · simp [liveAt] at hl2
      · have hb0 : E.isnil i = false := by simpa [liveAt] using hl1
        rcases own hb0 with ⟨k1, k2⟩ | ⟨k1, k2⟩
        · exact absurd (hh.inj n i' _ y' hn h2 rfl k1 hl2 (k2.trans he)).symm f3
        · exact absurd (hh.inj q i' _ y' hq h2 rfl k1 hl2 (k2.trans he)).symm f2
    · simp [liveAt] at hl1
    · rcases cas hy' with ⟨rfl, rfl⟩ | rfl | ⟨f1, f2, f3, h2⟩
      · have hb0 : E.isnil i' = false := by simpa [liveAt] using hl2
        rcases own hb0 with ⟨k1, k2⟩ | ⟨k1, k2⟩
        · exact absurd (hh.inj i n y _ h1 hn hm hl1 k1 (he.trans k2.symm)) e3
        · exact absurd (hh.inj i q y _ h1 hq hm hl1 k1 (he.trans k2.symm)) e2
      · simp [liveAt] at hl2
      · exact hh.inj i i' y y' h1 h2 hm hl1 hl2 he
  · obtain ⟨i, y, hy, hm, hl1, he⟩ := hk
    rcases cas hy with ⟨rfl, rfl⟩ | rfl | ⟨_, _, _, h1⟩
    · have hb0 : E.isnil i = false := by simpa [liveAt] using hl1
      rcases own hb0 with ⟨k1, k2⟩ | ⟨k1, k2⟩
      · exact ⟨n, _, hn, rfl, k1, k2.trans he⟩
      · exact ⟨q, _, hq, rfl, k1, k2.trans he⟩
    · simp [liveAt] at hl1
    · exact ⟨i, y, h1, hm, hl1, he⟩
section
variable {R : Type} {P : Program} {o : Oper} {ev : Operand → V} {h : List Blk} {K : KOp R}
/-- Append that keeps the old slice. -/
def aAppendKeep (P : Program) (t u : TypeId) (s x : V) (h : List Blk) (K : KOp R) : Option R := match s with
  | .gs b => match P.underlying t with
    | some (.slice e) => match P.info? e with
      | some i => match i.zero with
        | some z => match Nat.beq z.cells.size i.size && Nat.ble 1 i.size && Nat.ble i.bytes 1048576 with
          | true => match P.underlying u with
            | some (.int _) => none
            | some _ => match destOf (.gs b) e i.size h with
              | some (nn, row, h') => srcK x i.size h (fun row2 => match rowApp row row2, rowOne row2 with
                | some row', true => cond (decide (elemsN row'.len i.size * (i.bytes + 1) ≤ 70368744177664))
                    (K (.gs h.length) [] (.all (aAppendA.appB (aAppendA.appB h' (.grow nn e i.size row')) (.lent b h.length nn e i.size row)))) none
                | _, _ => none)
              | none => none
            | none => none
          | false => none
        | none => none
      | none => none
    | _ => none
  | _ => none
theorem ok_appendKeep {r : R} {c : Call} {t u : TypeId} {so xo : Operand} (ho : o.op = .call c) (hc : c.callee = .builtin .append) (hargs : c.args = #[so, xo]) (ht : c.argTypes[0]? = some t) (hu : c.argTypes[1]? = some u) :
    aAppendKeep P t u (ev so) (ev xo) h K = some r → ∃ H, K (.gs h.length) [] (.all H) = some r ∧ OpSem P o ev h (.gs h.length) H := by
  intro hr
  generalize hsv : ev so = sv at hr
  unfold aAppendKeep at hr
  split at hr
  next b0 =>
   split at hr
   · rename_i e hte
     split at hr
     · rename_i i hi
       split at hr
       · rename_i z hz
         split at hr
         · rename_i hb
           simp only [Bool.and_eq_true] at hb
           have hs1 := Nat.eq_of_beq_eq_true hb.1.1
           have hs2 := Nat.le_of_ble_eq_true hb.1.2
           have hs3 := Nat.le_of_ble_eq_true hb.2
           split at hr
           · cases hr
           · rename_i du hni hud
             split at hr
             · rename_i nn row h' hd
               obtain ⟨row2, hr2, Hsrc⟩ := srcK_ok (P := P) (by omega) hr
               split at hr2
               · rename_i row' hrow' hone'
                 have hvs := rowApp_ok hrow'
                 cases hcd : decide (elemsN row'.len i.size * (i.bytes + 1) ≤ 70368744177664) with
                 | false => rw [hcd, cond_false] at hr2; cases hr2
                 | true =>
                   rw [hcd, cond_true, appB_eq, appB_eq] at hr2
                   simp only [decide_eq_true_eq] at hcd
                   refine ⟨_, hr2, ?_⟩
                   obtain ⟨hx, hsame⟩ : ∃ hx, hx = h := ⟨_, rfl⟩
                   subst hsame
                   intro E a W hh hv next Q hnext
                   have hops : ∀ y, y = so ∨ y = xo → VR E hx.length (ev y) (a.eval y) := fun y hy => hv y (by
                     rw [ho]; simp only [Op.operands, Call.operands, hc, hargs]; rcases hy with rfl | rfl <;> simp)
                   obtain ⟨hin2, n, hn, hlen2, hfirst2⟩ := Hsrc E W hh _ (hops xo (.inr rfl))
                   have hD := destOf_ok hd E
                   have hiz : szT P e = some i.size := by simp [szT, hi]
                   have hzz : zeroOf P e = some z := by simp [zeroOf, hi, hz]
                   have hso := hops so (.inl rfl)
                   rw [hsv] at hso
                   cases hD
                   rename_i hbk
                   have hlenh : (setB hx b0 .dead).length = hx.length := setB_len _ _ _
                   have hkill : Holds E (setB hx b0 .dead) W ∧ Trans E hx W E (setB hx b0 .dead) W := hh.kill b0
                   have hinr : inSs hx.length row'.toVs = true := by
                     rw [hvs, inSs_append, hin2, Bool.and_true]
                     exact (hh.ok b0 _ hbk).2.1
                   -- the call, given what is done
                   have call : ∀ {ba : Option Addr} {sLen sCap : Nat} {v : Value} {W' : World}, a.eval so = .slice ba sLen sCap →
                       (Builtin.append_ c.argTypes o.type #[.slice ba sLen sCap, a.eval xo]).run P W = .ok v W' → (execOp a.eval o).run P W = .ok (.value v) W' := fun {ba sLen sCap v W'} hs hrun => by
                     have hargs' : c.args.map a.eval = #[.slice ba sLen sCap, a.eval xo] := by rw [hargs]; simp [hs]
                     simp only [execOp, ho, resolve, hc, Sem.run_bind, Sem.run_pure, Result.andThen_ok, invoke, builtin, hargs', hrun]
                   have hnint : ∀ k, du ≠ .int k := fun k hk => hni k hk
                   have fin : ∀ {sLen sCap : Nat} {ba : Option Addr} {cs0 : List Value}, a.eval so = .slice ba sLen sCap → sLen * i.size = row.toVs.length → cs0 = concs E row.toVs → ¬ sLen + n ≤ sCap →
                       (Builtin.firstCells i.size sLen (.slice ba sLen sCap)).run P W.drew = .ok cs0.toArray W.drew → Oper.wpE P o a W next Q := fun {sLen sCap ba cs0} hs hsl hcs0 hfit hf0 => by
                     have hrl : (sLen + n) * i.size = row'.len := by rw [Row.len_eq, hvs, List.length_append, ← hsl, ← hn, Nat.add_mul]
                     rw [elemsN_eq (by omega) hrl] at hcd
                     have hcd1 : sLen + n ≤ 70368744177664 := by
                       have : (sLen + n) * 1 ≤ (sLen + n) * (i.bytes + 1) := Nat.mul_le_mul_left _ (by omega)
                       omega
                     have hcd2 : (sLen + n) * i.bytes ≤ 70368744177664 := by
                       have : (sLen + n) * i.bytes ≤ (sLen + n) * (i.bytes + 1) := Nat.mul_le_mul_left _ (by omega)
                       omega
                     have hnc : Builtin.nextslicecap (sLen + n) sCap * i.bytes ≤ 281474976710656 := by
                       have h1 : Builtin.nextslicecap (sLen + n) sCap * i.bytes ≤ (2 * (sLen + n) + 512) * i.bytes := Nat.mul_le_mul_right _ (nextslicecap_le (by omega))
                       have h2 : (2 * (sLen + n) + 512) * i.bytes = 2 * ((sLen + n) * i.bytes) + 512 * i.bytes := by rw [Nat.add_mul, Nat.mul_assoc]
                       omega
                     obtain ⟨cap, hcap, hrun⟩ := run_append_more (P := P) (ty := o.type) ht hu hte hi hz hnint hud (hlen2 W) (hfirst2 W.drew hh.drew) hf0 hfit hcd1 hnc
                     have hrun' := call hs hrun
                     refine Oper.wpE_value hrun' ?_
                     have hrest : (Builtin.zeroCells z.cells (cap - (sLen + n))).toList.length = (cap - (sLen + n)) * i.size := by rw [Array.length_toList, model_zero_size, hs1]
                     obtain ⟨q1, q2⟩ := app_grow hkill hlenh (sz := i.size) (by omega) (row' := row') nn hrl hcap hinr _ hrest (e := e)
                     have he : cs0 ++ concs E row2.toVs ++ (Builtin.zeroCells z.cells (cap - (sLen + n))).toList = concs E row'.toVs ++ (Builtin.zeroCells z.cells (cap - (sLen + n))).toList := by rw [hcs0, hvs, concs_append]
                     rw [he]
                     obtain ⟨E2, a2, r1, r2⟩ := lent_add hh hbk q1 q2 (by
                       cases hnb : E.isnil b0 with
                       | true => exact .inl rfl
                       | false =>
                         have hltb := (hh.ok b0 _ hbk).lt (by simp [liveAt, hnb])
                         refine .inr (.inr ⟨rfl, ?_, ?_⟩)
                         · show (W.heap.push _)[E.blk b0]? = _
                           rw [Array.getElem?_push, if_neg (by omega)]
                         · simp only [Env.putA, hlenh, if_true]; omega)
                     refine hnext _ _ _ (.inr ⟨?_, ?_⟩) r1 r2
                     · simp only [inS, List.length_append, hlenh]; simp; omega
                     · rw [conc_agree (v := .gs hx.length) a2 (by simp [inS])]
                       simp [conc, Env.putA, hlenh]
                   have hs := (hso.val (by simp)).1
                   rw [conc] at hs
                   obtain ⟨hd0, hs0, hz0, hl0, hc0, hnil0, hcells⟩ := hh.ok b0 _ hbk
                   cases hnn : E.isnil b0 with
                   | true =>
                     rw [hnn, cond_true] at hs
                     have hr0 : row.toVs = [] := List.eq_nil_of_length_eq_zero (by rw [← Row.len_eq]; exact (hnil0 hnn).1)
                     have hnnf := (hnil0 hnn).2
                     subst hnnf
                     by_cases hn0 : n = 0
                     · have hr2 : row2.toVs = [] := List.eq_nil_of_length_eq_zero (by rw [← hn, hn0]; simp)
                       have hfc := hfirst2 W hh
                       have hrun := run_append_room (P := P) (W' := W) (ty := o.type) ht hu hte hi hnint hud (ba := E.base b0) (sLen := 0) (sCap := 0) (hlen2 W) hfc (by omega)
                         (by rw [hr2]; cases E.base b0 <;> simp [concs, storeCells])
                       have hrun' := call hs hrun
                       refine Oper.wpE_value hrun' ?_
                       obtain ⟨q1, q2⟩ := app_none hkill hlenh (e := e) (sz := i.size) (by omega) (row' := row') (by rw [hvs, hr2, hr0]; rfl) (E.base b0)
                       obtain ⟨E2, a2, r1, r2⟩ := lent_add hh hbk q1 q2 (.inl hnn)
                       refine hnext _ _ _ (.inr ⟨?_, ?_⟩) r1 r2
                       · simp only [inS, List.length_append, hlenh]; simp; omega
                       · rw [conc_agree (v := .gs hx.length) a2 (by simp [inS])]
                         simp [conc, Env.putA, hlenh, hn0]
                     · exact fin hs (by rw [hr0]; simp) rfl (by omega) (by rw [hr0]; cases E.base b0 <;> simp [Builtin.firstCells, concs, loadCells, loadCellsFrom])
                   | false =>
                     rw [hnn, cond_false] at hs
                     rw [Row.len_eq] at hl0
                     by_cases hfit : E.len b0 + n ≤ E.cap b0
                     · have hfc := hfirst2 W hh
                       obtain ⟨W', hst, q1, q2⟩ := app_fit (P := P) hh hbk hnn hvs hn hfit (rowOne_conc hone') hinr
                       have hrun := run_append_room (P := P) (W' := W') (ty := o.type) ht hu hte hi hnint hud (ba := some ⟨E.blk b0, E.delta b0, none⟩) (sLen := E.len b0) (sCap := E.cap b0) (hlen2 W) hfc hfit
                         (by simp only [Addr_add_lit]; exact hst)
                       have hrun' := call hs hrun
                       refine Oper.wpE_value hrun' ?_
                       obtain ⟨E2, a2, r1, r2⟩ := lent_add hh hbk q1 q2 (.inr (.inl ⟨by simp [Env.putA], by simp [Env.putA], by simp [Env.putA]⟩))
                       refine hnext _ _ _ (.inr ⟨?_, ?_⟩) r1 r2
                       · simp only [inS, List.length_append, hlenh]; simp; omega
                       · rw [conc_agree (v := .gs hx.length) a2 (by simp [inS])]
                         simp [conc, Env.putA, hd0]
                     · refine fin hs hl0 rfl hfit ?_
                       have hl := run_loadCells_list (P := P) W.drew ⟨E.blk b0, E.delta b0, none⟩ (concs E row.toVs) (fun j v hv => by
                         rw [concs_eq, List.getElem?_map] at hv
                         cases hj : row.toVs[j]? with
                         | none => rw [hj] at hv; cases hv
                         | some w =>
                           rw [hj] at hv
                           injection hv with hv
                           rw [Addr_add_lit, ← hv]
                           exact (hh.drew.cell hbk hj).1)
                       rw [concs_eq, List.length_map, ← hl0, ← concs_eq] at hl
                       simp only [Builtin.firstCells, hl]
               · cases hr2
             · cases hr
           · cases hr
         · cases hr
       · cases hr
     · cases hr
   · cases hr

  next => cases hr

def isMark : Blk → Bool
  | .ro (.vs []) => true
  | _ => false
/-- A function whose appends keep the old slices: its heap holds a mark. -/
def hasMark : List Blk → Bool
  | [] => false
  | b :: r => match isMark b with
    | true => true
    | false => hasMark r
def lentAt (b : Nat) : List Blk → Nat → Option (Nat × Nat × Bool × TypeId × Nat × Row)
  | [], _ => none
  | .lent b0 n nn ty sz row :: r, i => match Nat.beq b0 b with
    | true => some (i, n, nn, ty, sz, row)
    | false => lentAt b r (i + 1)
  | _ :: r, i => lentAt b r (i + 1)
theorem lentAt_ok {b : Nat} : ∀ {h : List Blk} {i q n : Nat} {nn : Bool} {ty : TypeId} {sz : Nat} {row : Row}, lentAt b h i = some (q, n, nn, ty, sz, row) → i ≤ q ∧ h[q - i]? = some (.lent b n nn ty sz row)
  | [], i, _, _, _, _, _, _, h => by cases h
  | x :: r, i, q, n, nn, ty, sz, row, h => by
    have step : lentAt b r (i + 1) = some (q, n, nn, ty, sz, row) → i ≤ q ∧ (x :: r)[q - i]? = some (.lent b n nn ty sz row) := fun h => by
      obtain ⟨h1, h2⟩ := lentAt_ok h
      refine ⟨by omega, ?_⟩
      rw [show q - i = (q - (i + 1)) + 1 by omega, List.getElem?_cons_succ]; exact h2
    cases x
    case lent b0 n0 nn0 ty0 sz0 row0 =>
      simp only [lentAt] at h
      cases hb : Nat.beq b0 b with
      | true =>
        rw [hb] at h
        have := Nat.eq_of_beq_eq_true hb
        subst this
        cases h
        exact ⟨Nat.le_refl _, by simp⟩
      | false => rw [hb] at h; exact step h
    all_goals exact step h
def aAppendX (P : Program) (t u : TypeId) (s x : V) (h : List Blk) (K : KOp R) : Option R := match hasMark h with
  | false => aAppend P t u s x h K
  | true => match s with
    | .gs b => match getB h b with
      | .dead => match lentAt b h 0 with
        | some (q, n, nn, ty, sz, row) => match getB h n with
          | .grow _ ty' sz' row' => match Nat.beq ty ty' && Nat.beq sz sz', tidyR row, tidyR row' with
            | true, .ints k l, .ints k' l' => match decide (k = k') with
              | true => cond (decide (List.take l.length l' = l)) (aAppendKeep P t u (.gs b) x (reviveH h b q n (.grow nn ty sz row)) K) none
              | false => none
            | _, _, _ => none
          | _ => none
        | none => none
      | _ => aAppendKeep P t u (.gs b) x h K
    | s => aAppend P t u s x h K
theorem OpSem.pre {h1 H : List Blk} {v : V} (hl : h1.length = h.length) (hr : ∀ E W, Holds E h W → Holds E h1 W ∧ Trans E h W E h1 W) (hs : OpSem P o ev h1 v H) : OpSem P o ev h v H := by
  intro E a W hh hv next Q hn
  obtain ⟨q1, q2⟩ := hr E W hh
  exact hs E a W q1 (fun x hx => by rw [hl]; exact hv x hx) next Q (fun x E' W' h1 h2 h3 => hn x E' W' h1 h2 (q2.trans h3))
theorem all_eff {v : V} {H : List Blk} {r : R} (hk : K v [] (.all H) = some r) (hs : OpSem P o ev h v H) : ∃ v rd eff, K v rd eff = some r ∧ Same h h rd eff ∧ OpEff P o ev h v rd eff :=
  ⟨_, _, _, hk, rfl, fun hx hsame => by
    have hsame : hx = h := hsame
    subst hsame
    exact hs⟩
theorem all_bornM {v : V} {H : List Blk} {r : R} (hk : K v [] (.all H) = some r) (hs : OpSem P o ev h v H) : ∃ v rd eff, K v rd eff = some r ∧ Same h h rd eff ∧ OpEff P o ev h v rd eff ∧ BornM P o ev h v rd eff :=
  ⟨_, _, _, hk, rfl, fun hx hsame => by
    have hsame : hx = h := hsame
    subst hsame
    exact hs, fun _ _ _ => ⟨fun he => (by cases he), fun _ he => (by cases he)⟩⟩
theorem ok_appendXM {c : Call} {t u : TypeId} {so xo : Operand} (ho : o.op = .call c) (hc : c.callee = .builtin .append) (hargs : c.args = #[so, xo]) (ht : c.argTypes[0]? = some t) (hu : c.argTypes[1]? = some u) {r : R} (hr : aAppendX P t u (ev so) (ev xo) h K = some r) :
    ∃ v rd eff, K v rd eff = some r ∧ Same h h rd eff ∧ OpEff P o ev h v rd eff ∧ BornM P o ev h v rd eff := by
  unfold aAppendX at hr
  split at hr
  · exact ok_appendM ho hc hargs ht hu hr
  · split at hr
    · rename_i b hso
      rw [← hso] at hr
      split at hr
      · rename_i hbd
        split at hr
        · rename_i q n nn ty sz row hla
          split at hr
          · rename_i nn2 ty' sz' row' hgn
            split at hr
            · rename_i k l k' l' hty hr1 hr2
              split at hr
              · rename_i hkk
                simp only [Bool.and_eq_true, decide_eq_true_eq] at hty hkk
                subst hkk
                have t1 := Nat.eq_of_beq_eq_true hty.1
                have t2 := Nat.eq_of_beq_eq_true hty.2
                subst t1; subst t2
                cases hcd : decide (List.take l.length l' = l) with
                | false => rw [hcd] at hr; cases hr
                | true =>
                  rw [hcd, cond_true] at hr
                  obtain ⟨H, hk, hs⟩ := ok_appendKeep ho hc hargs ht hu hr
                  obtain ⟨_, hq⟩ := lentAt_ok hla
                  rw [Nat.sub_zero] at hq
                  have hn := getB_some hgn (by simp)
                  have hlen : (reviveH h b q n (.grow nn ty sz row)).length = h.length := by unfold reviveH; rw [setB_len, setB_len, setB_len]
                  rw [hlen] at hk hs
                  have v1 : row.toVs = l.map (.int k) := by rw [← tidyR_ok, hr1]; rfl
                  have v2 : row'.toVs = l'.map (.int k) := by rw [← tidyR_ok, hr2]; rfl
                  have hpre : row'.toVs = row.toVs ++ (l'.drop l.length).map (.int k) := by
                    rw [v1, v2, ← List.map_append]
                    congr 1
                    conv => lhs; rw [← List.take_append_drop l.length l']
                    rw [of_decide_eq_true hcd]
                  refine all_bornM hk (hs.pre hlen fun E W hh => ?_)
                  have hbl : b < h.length := (hh.ok q _ hq).1
                  refine revive_ok hh hq hn hpre ?_
                  rw [getB_eq] at hbd
                  cases hx : h[b]? with
                  | none => rw [List.getElem?_eq_none_iff] at hx; omega
                  | some y => rw [hx] at hbd; simp at hbd; rw [hbd]
              · cases hr
            · cases hr
          · cases hr
        · cases hr
      · obtain ⟨H, hk, hs⟩ := ok_appendKeep ho hc hargs ht hu hr
        exact all_bornM hk hs
    · exact ok_appendM ho hc hargs ht hu hr
theorem ok_appendX {c : Call} {t u : TypeId} {so xo : Operand} (ho : o.op = .call c) (hc : c.callee = .builtin .append) (hargs : c.args = #[so, xo]) (ht : c.argTypes[0]? = some t) (hu : c.argTypes[1]? = some u) :
    AopOk P o ev h (aAppendX P t u (ev so) (ev xo) h K) K := by
  intro r hr
  obtain ⟨v, rd, eff, h1, h2, h3, _⟩ := ok_appendXM ho hc hargs ht hu hr
  exact ⟨v, rd, eff, h1, h2, h3⟩
end
end Go.Eng

/- ENGINE, PART 5k: variables of ours of which only the extent is known; parts of a slice up to the end of its row. -/
namespace Go.Eng
open Go
section
variable {R : Type} {P : Program} {o : Oper} {ev : Operand → V} {h : List Blk} {K : KOp R}

/-! ### the capacity -/
def aCap (P : Program) (t : TypeId) (x : V) (h : List Blk) (K : KOp R) : Option R := match P.underlying t with
  | some (.slice _) => match x with
    | .view b l _ _ => match getB h b with
      | .raw _ _ n => K (.int .i64 (Int.ofNat (n - l))) [b] .none
      | _ => none
    | .aslice _ _ _ cap => K (.int .i64 (Int.ofNat cap)) [] .none
    | .flat (.slice _ _ c) => K (.int .i64 (Int.ofNat c)) [] .none
    | _ => none
  | _ => none
theorem run_cap {c : Call} {t e : TypeId} {x : Operand} (ho : o.op = .call c) (hc : c.callee = .builtin .cap) (hx : c.args = #[x]) (ht : c.argTypes[0]? = some t) (hu : P.underlying t = some (.slice e)) {a : Act} {W : World} {n m : Nat} {ba : Option Addr}
    (hl : a.eval x = .slice ba m n) : (execOp a.eval o).run P W = .ok (.value (.int .i64 n)) W := by
  have hargs : c.args.map a.eval = #[a.eval x] := by rw [hx]; simp
  simp only [execOp, ho, resolve, hc, Sem.run_bind, Sem.run_pure, Result.andThen_ok, invoke, builtin, hargs, Builtin.cap_, ht]
  simp [run_underlying hu, hl, goInt]
theorem ok_cap {c : Call} {t : TypeId} {x : Operand} (ho : o.op = .call c) (hc : c.callee = .builtin .cap) (hx : c.args = #[x]) (ht : c.argTypes[0]? = some t) : AopOk P o ev h (aCap P t (ev x) h K) K := by
  intro r hr
  have hvx : ∀ {n : Nat} {E : Env} {a : Act}, (∀ z ∈ o.op.operands, VR E n (ev z) (a.eval z)) → VR E n (ev x) (a.eval x) := fun hv => hv x (by
    rw [ho]; simp only [Op.operands, Call.operands, hc, hx]; simp)
  unfold aCap at hr
  split at hr
  · rename_i e hu
    split at hr
    · rename_i b l sz len hb
      split at hr
      · rename_i ty sz2 n hraw
        refine ⟨_, [b], .none, hr, fun _ _ => rfl, fun h2 hs => OpSem.value fun E a W hh hv => ⟨_, VR.mkInt, ?_⟩⟩
        have h0 := hvx hv
        rw [hb] at h0
        have hb2 : h2[b]? = some (.raw ty sz2 n) := (hs b (by simp)).trans (getB_some hraw (by simp))
        obtain ⟨_, _, hn, hcp, _⟩ := hh.ok b _ hb2
        refine run_cap ho hc hx ht hu (m := len) (ba := some (if E.cap b = l then ⟨E.blk b, E.delta b, none⟩ else ⟨E.blk b, E.delta b + l * sz, none⟩)) ?_
        rw [(h0.val (by simp)).1, conc, hn, cond_false, hcp]
      · cases hr
    · rename_i b off len cap hb
      refine pureOk hr fun n E a W hv => ⟨_, VR.mkInt, ?_⟩
      have h0 := hvx hv
      rw [hb] at h0
      exact run_cap ho hc hx ht hu (m := len) (ba := some ⟨E.blk b, E.delta b + off, none⟩) (by rw [(h0.val (by simp)).1, conc])
    · rename_i ad n cp hb
      refine pureOk hr fun n' E a W hv => ⟨_, VR.mkInt, ?_⟩
      have h0 := hvx hv
      rw [hb] at h0
      exact run_cap ho hc hx ht hu (m := n) (ba := ad) (by rw [(h0.val (by simp)).1, conc])
    · cases hr
  · cases hr

/-! ### cutting -/
def aSliceX (P : Program) (t : TypeId) (x : V) (lo hi mx : Option V) (h : List Blk) (K : KOp R) : Option R := match x with
  | .view b l0 sz len => match lo, mx, P.underlying t with
    | none, none, some (.slice e) => match szT P e, getB h b with
      | some sz', .raw _ sz2 n => match Nat.beq sz' sz && Nat.beq sz2 sz with
        | true => cond (decide (l0 + len ≤ n)) (bounds none hi len (n - l0) (fun _ h' => K (.view b l0 sz h') [b] .none)) none
        | false => none
      | some sz', blk => match hasMark h, sliceRow blk with
        | true, some (sz2, row) => match Nat.beq sz' sz && Nat.beq sz2 sz with
          | true => cond (decide (l0 + len ≤ elemsN row.len sz)) (bounds none hi len (elemsN row.len sz - l0) (fun _ h' => K (.view b l0 sz h') [b] .none)) none
          | false => none
        | _, _ => aSlice P t x lo hi mx h K
      | none, _ => none
    | _, _, _ => aSlice P t x lo hi mx h K
  | _ => aSlice P t x lo hi mx h K
theorem low_zero {hi : Option Operand} {len cap : Nat} {a : Act} {W : World} {l h' c : Nat} (hbd : (Instr.sliceBounds true len cap none (hi.map a.eval) none).run P W = .ok (l, h', c) W) : l = 0 := by
  cases hi with
  | none => simp [Instr.sliceBounds] at hbd; omega
  | some y =>
    simp only [Option.map_some, Instr.sliceBounds, Sem.run_bind, Sem.run_pure, Result.andThen_ok] at hbd
    generalize (Instr.sliceBound (a.eval y) cap _).run P W = rr at hbd
    cases rr with
    | ok v w => simp at hbd; omega
    | halt _ _ => simp at hbd
/-- A part from the beginning on, of a slice that is there. -/
theorem run_reslice {t e : TypeId} {x : Operand} {hi : Option Operand} (ho : o.op = .slice t x none hi none) (hu : P.underlying t = some (.slice e)) {sz : Nat} (hsz : szT P e = some sz) {a : Act} {W : World} {ad : Addr} {len cap h' : Nat}
    (hx : a.eval x = .slice (some ad) len cap) (hbd : (Instr.sliceBounds true len cap none (hi.map a.eval) none).run P W = .ok (0, h', cap) W) : (execOp a.eval o).run P W = .ok (.value (.slice (some ad) h' cap)) W := by
  have ha0 : ∀ (ad : Addr), ad.add (0 * sz) = ad := fun ad => by simp [Addr.add]
  simp only [execOp, ho, hx, Instr.sliceAt, Sem.run_bind, run_underlying hu, Result.andThen_ok, Option.map_none, Instr.slice, hbd, Sem.run_pure, run_szT hsz, Option.map_some, ha0]
  simp
theorem ok_sliceX {t : TypeId} {x : Operand} {lo hi mx : Option Operand} (ho : o.op = .slice t x lo hi mx) : AopOk P o ev h (aSliceX P t (ev x) (optE ev lo) (optE ev hi) (optE ev mx) h K) K := by
  intro r hr
  have hvx : ∀ {n : Nat} {E : Env} {a : Act}, (∀ z ∈ o.op.operands, VR E n (ev z) (a.eval z)) → VR E n (ev x) (a.eval x) := fun hv => hv x (by
    rw [ho]; simp only [Op.operands]; simp)
  have hvb : ∀ {n : Nat} {E : Env} {a : Act}, (∀ z ∈ o.op.operands, VR E n (ev z) (a.eval z)) → ∀ y, lo = some y ∨ hi = some y → VR E n (ev y) (a.eval y) := fun hv y hy => hv y (by
    rw [ho]; simp only [Op.operands]; rcases hy with rfl | rfl <;> simp)
  unfold aSliceX at hr
  split at hr
  · rename_i b l0 sz len hx
    split at hr
    · rename_i e hlo hmx hu
      have hl : lo = none := by cases lo <;> simp [optE] at hlo; rfl
      have hm : mx = none := by cases mx <;> simp [optE] at hmx; rfl
      subst hl; subst hm
      split at hr
      · rename_i sz' ty sz2 n hsz hraw
        split at hr
        · rename_i hq
          simp only [Bool.and_eq_true] at hq
          have q1 := Nat.eq_of_beq_eq_true hq.1
          have q2 := Nat.eq_of_beq_eq_true hq.2
          subst q1; subst q2
          cases hcd : decide (l0 + len ≤ n) with
          | false => rw [hcd, cond_false] at hr; cases hr
          | true =>
            rw [hcd, cond_true] at hr
            simp only [decide_eq_true_eq] at hcd
            obtain ⟨l, h', h1, h2, hk, H⟩ := run_bounds (P := P) (ev := ev) (lo := none) hr
            refine ⟨_, [b], .none, hk, fun _ _ => rfl, fun hp hs => OpSem.value fun E a W hh hv => ?_⟩
            have hb2 : hp[b]? = some (.raw ty sz2 n) := (hs b (by simp)).trans (getB_some hraw (by simp))
            obtain ⟨_, _, hn, hcp, _⟩ := hh.ok b _ hb2
            have h0 := hvx hv
            rw [hx] at h0
            obtain ⟨e1, e2⟩ := h0.val (by simp)
            refine ⟨conc E (.view b l0 sz2 h'), VR.of (by simpa [inS] using e2), ?_⟩
            have hbd := H true (E.cap b - l0) (by omega) _ E a W (fun y hy => hvb hv y (by simpa using hy))
            simp only [Option.map_none] at hbd
            have hl0 := low_zero hbd
            subst hl0
            simp only [conc, hn, cond_false] at e1 ⊢
            exact run_reslice ho hu hsz e1 hbd
        · cases hr
      · rename_i sz' _ hsz _
        split at hr
        · rename_i sz2 row _ hsr
          split at hr
          · rename_i hq
            simp only [Bool.and_eq_true] at hq
            have q1 := Nat.eq_of_beq_eq_true hq.1
            have q2 := Nat.eq_of_beq_eq_true hq.2
            subst q1; subst q2
            cases hcd : decide (l0 + len ≤ elemsN row.len sz2) with
            | false => rw [hcd, cond_false] at hr; cases hr
            | true =>
              rw [hcd, cond_true] at hr
              simp only [decide_eq_true_eq] at hcd
              obtain ⟨l, h', h1, h2, hk, H⟩ := run_bounds (P := P) (ev := ev) (lo := none) hr
              refine ⟨_, [b], .none, hk, fun _ _ => rfl, fun hp hs => OpSem.value fun E a W hh hv => ?_⟩
              have hne : getB h b ≠ .dead := fun e => by rw [e] at hsr; simp [sliceRow] at hsr
              have hb2 : hp[b]? = some (getB h b) := (hs b (by simp)).trans (getB_some rfl hne)
              obtain ⟨_, hz, hl, hcap, hnil, _⟩ := sliceRow_ok hsr (hh.ok b _ hb2)
              rw [elemsN_eq hz hl] at hcd h2 H
              have h0 := hvx hv
              rw [hx] at h0
              obtain ⟨e1, e2⟩ := h0.val (by simp)
              refine ⟨conc E (.view b l0 sz2 h'), VR.of (by simpa [inS] using e2), ?_⟩
              cases hn : E.isnil b with
              | true =>
                have h3 := hnil hn
                rw [h3] at hl
                have hl0 : E.len b = 0 := by
                  rcases Nat.mul_eq_zero.1 hl with h | h
                  · exact h
                  · omega
                have hlen0 : len = 0 := by omega
                subst hlen0
                have hbd := H true 0 (by omega) _ E a W (fun y hy => hvb hv y (by simpa using hy))
                simp only [Option.map_none] at hbd
                have : h' = 0 := by omega
                subst this
                have hl0' := low_zero hbd
                subst hl0'
                simp only [execOp, ho, e1, conc, hn, Instr.sliceAt, Sem.run_bind, run_underlying hu, Result.andThen_ok, Option.map_none, cond_true, Instr.slice, hbd, Sem.run_pure, run_szT hsz]
                simp
              | false =>
                have hbd := H true (E.cap b - l0) (by omega) _ E a W (fun y hy => hvb hv y (by simpa using hy))
                simp only [Option.map_none] at hbd
                have hl0 := low_zero hbd
                subst hl0
                simp only [conc, hn, cond_false] at e1 ⊢
                exact run_reslice ho hu hsz e1 hbd
          · cases hr
        · exact ok_slice ho r hr
      · cases hr
    · exact ok_slice ho r hr
  · exact ok_slice ho r hr

/-! ### elements -/
/-- An index into an array of four in a variable: by cases. -/
def aPick4 (i : Int) (F : Int → Option R) : Option R := cond (decide (i = 0)) (F 0) (cond (decide (i = 1)) (F 1) (cond (decide (i = 2)) (F 2) (cond (decide (i = 3)) (F 3) none)))
theorem aPick4_ok {i : Int} {F : Int → Option R} {r : R} (h : aPick4 i F = some r) : F i = some r := by
  unfold aPick4 at h
  by_cases h0 : i = 0
  · rw [decide_eq_true h0] at h; rw [h0]; exact h
  · rw [decide_eq_false h0] at h
    by_cases h1 : i = 1
    · rw [decide_eq_true h1] at h; rw [h1]; exact h
    · rw [decide_eq_false h1] at h
      by_cases h2 : i = 2
      · rw [decide_eq_true h2] at h; rw [h2]; exact h
      · rw [decide_eq_false h2] at h
        by_cases h3 : i = 3
        · rw [decide_eq_true h3] at h; rw [h3]; exact h
        · rw [decide_eq_false h3] at h; cases h
def isFour (P : Program) (t : TypeId) : Bool := match P.underlying t with
  | some (.array n _) => Nat.beq n 4
  | _ => false
def isVar : Blk → Bool
  | .own _ (.vs _) => true
  | _ => false
def aIndexAddr4 (P : Program) (t : TypeId) (x i : V) (h : List Blk) (K : KOp R) : Option R := match x, i with
  | .ptr b off, .int k n => match isFour P t && isVar (getB h b) with
    | true => aPick4 n fun m => aIndexAddr P t (.ptr b off) (.int k m) h K
    | false => aIndexAddr P t (.ptr b off) (.int k n) h K
  | x, i => aIndexAddr P t x i h K
theorem aIndexAddr4_ok {P : Program} {t : TypeId} {x i : V} {h : List Blk} {K : KOp R} {r : R} (hr : aIndexAddr4 P t x i h K = some r) : aIndexAddr P t x i h K = some r := by
  unfold aIndexAddr4 at hr
  split at hr
  · split at hr
    · exact aPick4_ok hr
    · exact hr
  · exact hr
def aIndexAddrX (P : Program) (t : TypeId) (x i : V) (h : List Blk) (K : KOp R) : Option R := match x with
  | .view b l sz len => match getB h b with
    | .raw _ sz2 n => match i, P.underlying t with
      | .int _ i, some (.slice e) => match szT P e with
        | some sz' => match Nat.beq sz' sz && Nat.beq sz2 sz with
          | true => cond (decide (0 ≤ i ∧ i < Int.ofNat len ∧ l + len ≤ n)) (K (.ptr b (mulS (addS l i.toNat) sz)) [b] .none) none
          | false => none
        | none => none
      | _, _ => none
    | _ => aIndexAddr4 P t x i h K
  | _ => aIndexAddr4 P t x i h K
theorem ok_indexAddrX {t : TypeId} {x i : Operand} (ho : o.op = .indexAddr t x i) : AopOk P o ev h (aIndexAddrX P t (ev x) (ev i) h K) K := by
  intro r hr
  unfold aIndexAddrX at hr
  split at hr
  · rename_i b l sz len hx
    split at hr
    · rename_i ty sz2 n hraw
      split at hr
      · rename_i k m e hi hu
        split at hr
        · rename_i sz' hsz
          split at hr
          · rename_i hq
            simp only [Bool.and_eq_true] at hq
            have q1 := Nat.eq_of_beq_eq_true hq.1
            have q2 := Nat.eq_of_beq_eq_true hq.2
            subst q1; subst q2
            cases hb : decide (0 ≤ m ∧ m < Int.ofNat len ∧ l + len ≤ n) with
            | false => rw [hb, cond_false] at hr; cases hr
            | true =>
              rw [hb] at hr
              simp only [decide_eq_true_eq] at hb
              refine ⟨_, [b], .none, hr, fun _ _ => rfl, fun h2 hs => OpSem.value fun E a W hh hv => ?_⟩
              have hb2 : h2[b]? = some (.raw ty sz2 n) := (hs b (by simp)).trans (getB_some hraw (by simp))
              obtain ⟨_, _, hn, hcp, _⟩ := hh.ok b _ hb2
              have h0 := hv x (by simp [ho, Op.operands])
              rw [hx] at h0
              obtain ⟨e1, e2⟩ := h0.val (by simp)
              have hiv := hv i (by simp [ho, Op.operands])
              rw [hi] at hiv
              have hiv := hiv.int
              refine ⟨conc E (.ptr b (mulS (addS l m.toNat) sz2)), VR.of (by simpa [inS] using e2), ?_⟩
              have hlt := hb.2.1
              simp only [Int.ofNat_eq_natCast] at hlt
              have hcl : ¬ n = l := by omega
              simp only [execOp, ho, hiv, e1, conc, hn, cond_false, hcp, if_neg hcl, Instr.indexAt, asIntOf, Sem.run_bind, Sem.run_pure, Result.andThen_ok, run_underlying hu]
              rw [if_pos ⟨hb.1, by simpa using hb.2.1⟩]
              simp only [Sem.run_bind, run_szT hsz, Result.andThen_ok, Sem.run_pure, Addr_add_lit, mulS_eq, addS_eq]
              congr 4
              rw [Nat.add_mul, Nat.add_assoc]
          · cases hr
        · cases hr
      · cases hr
    · exact ok_indexAddr ho r (aIndexAddr4_ok hr)
  · exact ok_indexAddr ho r (aIndexAddr4_ok hr)

/-! ### writing -/
def aStoreX (P : Program) (t : TypeId) (a x : V) (h : List Blk) (K : KOp R) : Option R := match a with
  | .ptr b off => match getB h b with
    | .raw ty sz n => match wholeV x, szT P t with
      | true, some m => match Nat.beq m (cellsV x).length && Nat.ble 1 m with
        | true => cond (decide (off + m ≤ mulS n sz)) (K undefV [] (.wr b (.raw ty sz n))) none
        | false => none
      | _, _ => none
    | _ => aStore P t a x h K
  | _ => aStore P t a x h K
theorem ok_storeX {t : TypeId} {x y : Operand} (ho : o.op = .store t x y) : AopOk P o ev h (aStoreX P t (ev x) (ev y) h K) K := by
  intro r hr
  unfold aStoreX at hr
  split at hr
  · rename_i b off hx
    split at hr
    · rename_i ty sz n hraw
      split at hr
      · rename_i m hw hsz
        split at hr
        · rename_i hnb
          simp only [Bool.and_eq_true] at hnb
          have hn1 := Nat.eq_of_beq_eq_true hnb.1
          have hn2 := Nat.le_of_ble_eq_true hnb.2
          cases hb : decide (off + m ≤ mulS n sz) with
          | false => rw [hb, cond_false] at hr; cases hr
          | true =>
            rw [hb, cond_true] at hr
            simp only [decide_eq_true_eq, mulS_eq] at hb
            refine ⟨_, _, _, hr, ⟨fun _ _ => rfl, rfl⟩, fun h2 hs => ?_⟩
            intro E a W hh hv next Q hnext
            have hb2 : h2[b]? = some (.raw ty sz n) := hs.2.trans (getB_some hraw (by simp))
            have hvx := hv x (by simp [ho, Op.operands])
            have hvy := hv y (by simp [ho, Op.operands])
            rw [hx] at hvx
            have hny : ev y ≠ .top := fun e => by rw [e] at hw; simp [wholeV] at hw
            obtain ⟨ey, iy⟩ := hvy.val hny
            have hcl : (concs E (cellsV (ev y))).length = m := by rw [concs_eq, List.length_map]; exact hn1.symm
            obtain ⟨hd, hz, hn, hcp, fz, cells, hl, hfz, hc⟩ := hh.ok b _ hb2
            have hone : ∀ v ∈ concs E (cellsV (ev y)), v.oneCell' = true := fun v hv => by
              rw [concs_eq] at hv
              obtain ⟨u, hu, rfl⟩ := List.mem_map.1 hv
              exact oneV_conc (cellsV_one hw u hu)
            have hst := run_storeCells_any (P := P) (E.blk b) off ty fz (concs E (cellsV (ev y))) 0 cells W hc (fun k hk => hfz k (by rw [hcl] at hk; omega)) (by rw [hcl, hl]; omega) hone
            rw [Nat.add_zero] at hst
            have hsl : (splice cells off (concs E (cellsV (ev y)))).length = n * sz := by rw [splice_length _ _ _ (by rw [hcl, hl]; exact hb), hl]
            obtain ⟨h1, h3⟩ := hh.write (blk' := .raw ty sz n) hb2 rfl rfl rfl rfl (o := .cells (splice cells off (concs E (cellsV (ev y)))).toArray ty fz)
              ⟨hd, hz, hn, hcp, fz, _, hsl, hfz, putObj_self (Array.getElem?_eq_some_iff.1 hc).1⟩
            have hrun : (execOp a.eval o).run P W = .ok .skip (World.putObj W (E.blk b) (.cells (splice cells off (concs E (cellsV (ev y)))).toArray ty fz)) := by
              simp only [execOp, ho, (hvx.val (by simp)).1, conc, Instr.storeAt, Instr.sureAddr, Sem.run_bind, Sem.run_pure, Result.andThen_ok, storeVar, run_szT hsz]
              have hs2 : (a.eval y).cells.size = m := by rw [ey, ← Array.length_toList, cellsV_conc hw, hcl]
              rw [if_neg (by rw [hs2]; simp)]
              rw [show (a.eval y).cells.toList = concs E (cellsV (ev y)) by rw [ey, cellsV_conc hw]]
              rw [hd, Nat.zero_add, hst]
              rfl
            exact Oper.wpE_skip hrun (hnext undef E _ VR.undef h1 h3)
        · cases hr
      · cases hr
    · exact ok_store ho r hr
  · exact ok_store ho r hr
end
end Go.Eng

/- ENGINE, PART 5m: a part of a slice that was lent to a longer one: the old slice comes back first. -/
namespace Go.Eng
open Go
section
variable {R : Type} {P : Program} {o : Oper} {ev : Operand → V} {h : List Blk} {K : KOp R}
/-- The lent block is there again: the heap as it is then. -/
def reviveK (b : Nat) (h : List Blk) (K : List Blk → Option R) : Option R := match lentAt b h 0 with
  | some (q, n, nn, ty, sz, row) => match getB h n with
    | .grow _ ty' sz' row' => match Nat.beq ty ty' && Nat.beq sz sz', tidyR row, tidyR row' with
      | true, .ints k l, .ints k' l' => match decide (k = k') with
        | true => cond (decide (List.take l.length l' = l)) (K (reviveH h b q n (.grow nn ty sz row))) none
        | false => none
      | _, _, _ => none
    | _ => none
  | none => none
theorem reviveK_ok {b : Nat} {r : R} {K : List Blk → Option R} (hbd : getB h b = .dead) (hr : reviveK b h K = some r) :
    ∃ h1, K h1 = some r ∧ h1.length = h.length ∧ ∀ E W, Holds E h W → Holds E h1 W ∧ Trans E h W E h1 W := by
  unfold reviveK at hr
  split at hr
  · rename_i q n nn ty sz row hla
    split at hr
    · rename_i nn2 ty' sz' row' hgn
      split at hr
      · rename_i k l k' l' hty hr1 hr2
        split at hr
        · rename_i hkk
          simp only [Bool.and_eq_true, decide_eq_true_eq] at hty hkk
          subst hkk
          have t1 := Nat.eq_of_beq_eq_true hty.1
          have t2 := Nat.eq_of_beq_eq_true hty.2
          subst t1; subst t2
          cases hcd : decide (List.take l.length l' = l) with
          | false => rw [hcd] at hr; cases hr
          | true =>
            rw [hcd, cond_true] at hr
            obtain ⟨_, hq⟩ := lentAt_ok hla
            rw [Nat.sub_zero] at hq
            have hn := getB_some hgn (by simp)
            refine ⟨_, hr, by unfold reviveH; rw [setB_len, setB_len, setB_len], fun E W hh => ?_⟩
            have v1 : row.toVs = l.map (.int k) := by rw [← tidyR_ok, hr1]; rfl
            have v2 : row'.toVs = l'.map (.int k) := by rw [← tidyR_ok, hr2]; rfl
            have hpre : row'.toVs = row.toVs ++ (l'.drop l.length).map (.int k) := by
              rw [v1, v2, ← List.map_append]
              congr 1
              conv => lhs; rw [← List.take_append_drop l.length l']
              rw [of_decide_eq_true hcd]
            have hbl : b < h.length := (hh.ok q _ hq).1
            refine revive_ok hh hq hn hpre ?_
            rw [getB_eq] at hbd
            cases hx : h[b]? with
            | none => rw [List.getElem?_eq_none_iff] at hx; omega
            | some y => rw [hx] at hbd; simp at hbd; rw [hbd]
        · cases hr
      · cases hr
    · cases hr
  · cases hr
def aSliceL (P : Program) (t : TypeId) (x : V) (lo hi mx : Option V) (h : List Blk) (K : KOp R) : Option R := match x with
  | .gs b => match hasMark h, getB h b with
    | true, .dead => reviveK b h (fun h1 => aSliceX P t (.gs b) lo hi mx h1 (fun v _ eff => K v [] (.all (eff.app h1))))
    | _, _ => aSliceX P t (.gs b) lo hi mx h K
  | x => aSliceX P t x lo hi mx h K
theorem ok_sliceL {t : TypeId} {x : Operand} {lo hi mx : Option Operand} (ho : o.op = .slice t x lo hi mx) : AopOk P o ev h (aSliceL P t (ev x) (optE ev lo) (optE ev hi) (optE ev mx) h K) K := by
  intro r hr
  unfold aSliceL at hr
  split at hr
  · rename_i b hx
    rw [← hx] at hr
    split at hr
    · rename_i _ hbd
      obtain ⟨h1, hk, hl, H⟩ := reviveK_ok hbd hr
      obtain ⟨v, rd, eff, hk2, hsame, heff⟩ := ok_sliceX (P := P) (ev := ev) (h := h1) ho r hk
      exact all_eff hk2 ((heff h1 hsame).pre hl H)
    · exact ok_sliceX ho r hr
  · exact ok_sliceX ho r hr
end
end Go.Eng

/- ENGINE, PART 5n: slices that were lent to longer ones, and are read all the same; records of lent slices joined. -/
namespace Go.Eng
open Go
section
variable {R : Type} {P : Program} {o : Oper} {ev : Operand → V} {h : List Blk} {K : KOp R}
def aLenL (P : Program) (t : TypeId) (x : V) (h : List Blk) (K : KOp R) : Option R := match x with
  | .gs b => match getB h b with
    | .dead => match P.underlying t, lentAt b h 0 with
      | some (.slice _), some (q, _, _, _, sz, row) => K (.int .i64 (Int.ofNat (elemsN row.len sz))) [q] .none
      | _, _ => none
    | _ => aLen P t (.gs b) h K
  | x => aLen P t x h K
theorem lent_len {E : Env} {n q b n0 ty sz : Nat} {nn : Bool} {row : Row} {W : World} (hk : BlkOk E n W q (.lent b n0 nn ty sz row)) : E.len b = elemsN row.len sz ∧ (E.isnil b = true → E.len b = 0) := by
  obtain ⟨_, _, _, _, hz, hl, _, hnil, _⟩ := hk
  refine ⟨(elemsN_eq hz hl).symm, fun hn => ?_⟩
  have h1 := (hnil hn).1
  rw [h1] at hl
  rcases Nat.mul_eq_zero.1 hl with h | h
  · exact h
  · omega
theorem ok_lenL {c : Call} {t : TypeId} {x : Operand} (ho : o.op = .call c) (hc : c.callee = .builtin .len) (hx : c.args = #[x]) (ht : c.argTypes[0]? = some t) : AopOk P o ev h (aLenL P t (ev x) h K) K := by
  intro r hr
  unfold aLenL at hr
  split at hr
  · rename_i b hb
    split at hr
    · split at hr
      · rename_i e q n nn ty sz row hu hla
        obtain ⟨_, hq⟩ := lentAt_ok hla
        rw [Nat.sub_zero] at hq
        refine ⟨_, [q], .none, hr, fun _ _ => rfl, fun h2 hs => OpSem.value fun E a W hh hv => ⟨_, VR.mkInt, ?_⟩⟩
        have h0 := hv x (by rw [ho]; simp only [Op.operands, Call.operands, hc, hx]; simp)
        rw [hb] at h0
        obtain ⟨h1, h2⟩ := lent_len (hh.ok q _ ((hs q (by simp)).trans hq))
        rw [← h1]
        refine run_len ho hc hx ht ?_
        rw [hu, (h0.val (by simp)).1, conc]
        cases hn : E.isnil b with
        | true => simp [h2 hn]
        | false => simp
      · cases hr
    · rw [← hb] at hr; exact ok_len ho hc hx ht r hr
  · exact ok_len ho hc hx ht r hr

def aIndexAddrL (P : Program) (t : TypeId) (x i : V) (h : List Blk) (K : KOp R) : Option R := match x with
  | .gs b => match getB h b with
    | .dead => match i, P.underlying t with
      | .int _ i, some (.slice e) => match szT P e, lentAt b h 0 with
        | some sz', some (q, _, _, _, sz, row) => match Nat.beq sz' sz with
          | true => cond (decide (0 ≤ i ∧ i < Int.ofNat (elemsN row.len sz))) (K (.ptr b (mulS i.toNat sz)) [q] .none) none
          | false => none
        | _, _ => none
      | _, _ => none
    | _ => aIndexAddrX P t (.gs b) i h K
  | x => aIndexAddrX P t x i h K
theorem ok_indexAddrL {t : TypeId} {x i : Operand} (ho : o.op = .indexAddr t x i) : AopOk P o ev h (aIndexAddrL P t (ev x) (ev i) h K) K := by
  intro r hr
  unfold aIndexAddrL at hr
  split at hr
  · rename_i b hx
    split at hr
    · split at hr
      · rename_i k m e hi hu
        split at hr
        · rename_i sz' q n nn ty sz row hsz hla
          split at hr
          · rename_i hq2
            have := Nat.eq_of_beq_eq_true hq2
            subst this
            obtain ⟨_, hq⟩ := lentAt_ok hla
            rw [Nat.sub_zero] at hq
            cases hb : decide (0 ≤ m ∧ m < Int.ofNat (elemsN row.len sz')) with
            | false => rw [hb, cond_false] at hr; cases hr
            | true =>
              rw [hb] at hr
              simp only [decide_eq_true_eq] at hb
              refine ⟨_, [q], .none, hr, fun _ _ => rfl, fun h2 hs => OpSem.value fun E a W hh hv => ?_⟩
              obtain ⟨l1, l2⟩ := lent_len (hh.ok q _ ((hs q (by simp)).trans hq))
              rw [← l1] at hb
              have hn : E.isnil b = false := by
                cases hxx : E.isnil b with
                | false => rfl
                | true =>
                  rw [l2 hxx] at hb
                  simp at hb
                  omega
              have h0 := hv x (by simp [ho, Op.operands])
              rw [hx] at h0
              have h3 := hv i (by simp [ho, Op.operands])
              rw [hi] at h3
              obtain ⟨e1, e2⟩ := h0.val (by simp)
              refine ⟨conc E (.ptr b (mulS m.toNat sz')), VR.of (by simpa [inS] using e2), ?_⟩
              simp only [execOp, ho, h3.int, e1, conc, hn, cond_false, Instr.indexAt, asIntOf, Sem.run_bind, Sem.run_pure, Result.andThen_ok, run_underlying hu]
              rw [if_pos (by simpa using hb)]
              simp only [Sem.run_bind, run_szT hsz, Result.andThen_ok, Sem.run_pure, Addr_add_lit, mulS_eq]
          · cases hr
        · cases hr
      · cases hr
    · rw [← hx] at hr; exact ok_indexAddrX ho r hr
  · exact ok_indexAddrX ho r hr

/-- The cells of a slice that was lent, as long as the longer one begins with them. -/
def aLoadL (P : Program) (t : TypeId) (a : V) (h : List Blk) (K : KOp R) : Option R := match a with
  | .ptr b off => match getB h b with
    | .dead => match lentAt b h 0 with
      | some (q, n, nn, ty, sz, row) => match getB h n with
        | .grow _ ty' sz' row' => match Nat.beq ty ty' && Nat.beq sz sz', tidyR row, tidyR row' with
          | true, .ints k l, .ints k' l' => match decide (k = k') with
            | true => cond (decide (List.take l.length l' = l)) (loadRow P t b (Blk.grow nn ty sz row).row off (fun v _ _ => K v [b, q, n] .none)) none
            | false => none
          | _, _, _ => none
        | _ => none
      | none => none
    | _ => aLoad P t (.ptr b off) h K
  | a => aLoad P t a h K
theorem reviveH_at {h : List Blk} {b q n : Nat} {x : Blk} (hb : b < h.length) : (reviveH h b q n x)[b]? = some x := by
  unfold reviveH
  rw [setB_eq, List.getElem?_set_self (by rw [setB_len, setB_len]; exact hb)]
theorem ok_loadL {t : TypeId} {x : Operand} (ho : o.op = .load t x) : AopOk P o ev h (aLoadL P t (ev x) h K) K := by
  intro r hr
  unfold aLoadL at hr
  split at hr
  · rename_i b off hx
    split at hr
    · rename_i hbd
      split at hr
      · rename_i q n nn ty sz row hla
        split at hr
        · rename_i nn2 ty' sz' row' hgn
          split at hr
          · rename_i k l k' l' hty hr1 hr2
            split at hr
            · rename_i hkk
              simp only [Bool.and_eq_true, decide_eq_true_eq] at hty hkk
              subst hkk
              have t1 := Nat.eq_of_beq_eq_true hty.1
              have t2 := Nat.eq_of_beq_eq_true hty.2
              subst t1; subst t2
              cases hcd : decide (List.take l.length l' = l) with
              | false => rw [hcd] at hr; cases hr
              | true =>
                rw [hcd, cond_true] at hr
                obtain ⟨_, hq⟩ := lentAt_ok hla
                rw [Nat.sub_zero] at hq
                have hn := getB_some hgn (by simp)
                have v1 : row.toVs = l.map (.int k) := by rw [← tidyR_ok, hr1]; rfl
                have v2 : row'.toVs = l'.map (.int k) := by rw [← tidyR_ok, hr2]; rfl
                have hpre : row'.toVs = row.toVs ++ (l'.drop l.length).map (.int k) := by
                  rw [v1, v2, ← List.map_append]
                  congr 1
                  conv => lhs; rw [← List.take_append_drop l.length l']
                  rw [of_decide_eq_true hcd]
                have hbg : getB [Blk.grow nn ty sz row] 0 = .grow nn ty sz row := rfl
                have hgo : ∀ (hh0 : List Blk), getB hh0 b = .grow nn ty sz row → ∃ v, K v [b, q, n] .none = some r ∧ ∀ h2, h2[b]? = hh0[b]? → ∀ E W, Holds E h2 W → inS h2.length v = true ∧ (loadVar t ⟨E.blk b, E.delta b + off, none⟩).run P W = .ok (conc E v) W := fun hh0 hg => by
                  obtain ⟨v, hk, H⟩ := loadRow_ok hr hg
                  exact ⟨v, hk, fun h2 he E W hh => H h2 he E W hh⟩
                have hbl0 : b < h.length ∨ h.length ≤ b := by omega
                rcases hbl0 with hbl | hbl
                · have hrv : getB (reviveH h b q n (.grow nn ty sz row)) b = .grow nn ty sz row := by rw [getB_eq, reviveH_at hbl]; rfl
                  obtain ⟨v, hk, H⟩ := hgo _ hrv
                  refine ⟨v, [b, q, n], .none, hk, fun _ _ => rfl, fun h2 hs => OpSem.value fun E a W hh hv => ?_⟩
                  have eb : h2[b]? = some .dead := by
                    rw [hs b (by simp)]
                    rw [getB_eq] at hbd
                    cases hy : h[b]? with
                    | none => rw [List.getElem?_eq_none_iff] at hy; omega
                    | some y => rw [hy] at hbd; simp at hbd; rw [hbd]
                  have hbl2 : b < h2.length := getElem?_lt eb
                  obtain ⟨r1, _⟩ := revive_ok hh ((hs q (by simp)).trans hq) ((hs n (by simp)).trans hn) hpre eb
                  obtain ⟨h1, h3⟩ := H _ (by rw [reviveH_at hbl2, reviveH_at hbl]) E W r1
                  have hlen : (reviveH h2 b q n (.grow nn ty sz row)).length = h2.length := by unfold reviveH; rw [setB_len, setB_len, setB_len]
                  rw [hlen] at h1
                  have h0 := hv x (by simp [ho, Op.operands])
                  rw [hx] at h0
                  refine ⟨conc E v, VR.of h1, ?_⟩
                  simp only [execOp, ho, (h0.val (by simp)).1, conc, Instr.loadAt, Instr.sureAddr, Sem.run_bind, Sem.run_pure, Result.andThen_ok, h3]
                · -- such a heap there is none
                  obtain ⟨v, hk, _⟩ := hgo (List.replicate b .dead ++ [.grow nn ty sz row]) (by rw [getB_eq]; simp)
                  refine ⟨v, [b, q, n], .none, hk, fun _ _ => rfl, fun h2 hs => OpSem.value fun E a W hh hv => ?_⟩
                  have := (hh.ok q _ ((hs q (by simp)).trans hq)).1
                  have hb2 : h2[b]? = none := by rw [hs b (by simp), List.getElem?_eq_none hbl]
                  rw [List.getElem?_eq_none_iff] at hb2
                  omega
            · cases hr
          · cases hr
        · cases hr
      · cases hr
    · rw [← hx] at hr; exact ok_load ho r hr
  · exact ok_load ho r hr

/-! ### records joined -/
/-- A second mark: old slices are read, records are joined. -/
def hasMark2 : List Blk → Bool
  | [] => false
  | b :: r => match isMark b with
    | true => hasMark r
    | false => hasMark2 r
def noHeap (n : Nat) : List Blk → Bool
  | [] => true
  | b :: r => noBlk n b && noHeap n r
theorem noHeap_get {n : Nat} : ∀ {h : List Blk}, noHeap n h = true → ∀ {b : Nat} {x : Blk}, h[b]? = some x → noBlk n x = true
  | [], _, b, x, hx => by simp at hx
  | y :: r, hn, 0, x, hx => by
    simp only [noHeap, Bool.and_eq_true] at hn
    simp only [List.getElem?_cons_zero, Option.some.injEq] at hx
    subst hx; exact hn.1
  | y :: r, hn, b + 1, x, hx => by
    simp only [noHeap, Bool.and_eq_true] at hn
    simp only [List.getElem?_cons_succ] at hx
    exact noHeap_get hn.2 hx
def lentTo (n : Nat) : List Blk → Nat → Option (Nat × Nat × Bool × TypeId × Nat × Row)
  | [], _ => none
  | .lent b0 n0 nn ty sz row :: r, i => match Nat.beq n0 n with
    | true => some (i, b0, nn, ty, sz, row)
    | false => lentTo n r (i + 1)
  | _ :: r, i => lentTo n r (i + 1)
theorem lentTo_ok {n : Nat} : ∀ {h : List Blk} {i q b : Nat} {nn : Bool} {ty : TypeId} {sz : Nat} {row : Row}, lentTo n h i = some (q, b, nn, ty, sz, row) → i ≤ q ∧ h[q - i]? = some (.lent b n nn ty sz row)
  | [], i, _, _, _, _, _, _, h => by cases h
  | x :: r, i, q, b, nn, ty, sz, row, h => by
    have step : lentTo n r (i + 1) = some (q, b, nn, ty, sz, row) → i ≤ q ∧ (x :: r)[q - i]? = some (.lent b n nn ty sz row) := fun h => by
      obtain ⟨h1, h2⟩ := lentTo_ok h
      refine ⟨by omega, ?_⟩
      rw [show q - i = (q - (i + 1)) + 1 by omega, List.getElem?_cons_succ]; exact h2
    cases x
    case lent b0 n0 nn0 ty0 sz0 row0 =>
      simp only [lentTo] at h
      cases hb : Nat.beq n0 n with
      | true =>
        rw [hb] at h
        have := Nat.eq_of_beq_eq_true hb
        subst this
        cases h
        exact ⟨Nat.le_refl _, by simp⟩
      | false => rw [hb] at h; exact step h
    all_goals exact step h
def joinH (H : List Blk) (q m : Nat) (x : Blk) : List Blk := setB (setB H q .dead) m x
def joinK (n0 : Nat) (v : V) (H : List Blk) (K : List Blk → Option R) : Option R := match H.length with
  | 0 => K H
  | m + 1 => match getB H m with
    | .lent n N _ ty2 sz2 row2 => match lentTo n H 0 with
      | some (q, b, nn, ty, sz, row) => match (Nat.blt q m && Nat.ble n0 m) && ((Nat.beq ty2 ty && Nat.beq sz2 sz) && (noHeap m H && noV m v)), tidyR row, tidyR row2 with
        | true, .ints k l, .ints k' l2 => match decide (k = k') with
          | true => cond (decide (List.take l.length l2 = l)) (K (joinH H q m (.lent b N nn ty sz row))) none
          | false => K H
        | _, _, _ => K H
      | none => K H
    | _ => K H
theorem join_sub {E : Env} {H : List Blk} {W : World} {m q n N b ty sz k : Nat} {nn nn2 nil : Bool} {row row2 : Row} (hh : Holds E H W) (hlen : H.length = m + 1) (hm : H[m]? = some (.lent n N nn2 ty sz row2)) (hq : H[q]? = some (.lent b n nn ty sz row))
    (hqm : q < m) (hno : noHeap m H = true)
    (h1 : E.isnil b = false → (nil = true ∧ E.isnil N = false ∧ E.blk b = E.blk N ∧ E.cap b = E.cap N) ∨ (nil = false ∧ E.blk b = k))
    (h2 : nil = false → ∃ fz spare, thawed fz (row.len + spare.length) ∧ row.len + spare.length = E.cap b * sz ∧ W.heap[k]? = some (.cells (concs E row.toVs ++ spare).toArray ty fz))
    (h3 : nil = false → (E.isnil q = false ∧ k = E.blk q) ∨ (E.isnil m = false ∧ k = E.blk m)) :
    ∃ E', (∃ k' nil', E' = E.one m k' 0 0 0 nil' none) ∧ Holds E' (joinH H q m (.lent b N nn ty sz row)) W ∧ ∀ j, Mine E' (joinH H q m (.lent b N nn ty sz row)) j → Mine E H j := by
  obtain ⟨hbl, hnl, hs, hd, hz, hl, hc, hnil, hor, hcell⟩ := hh.ok q _ hq
  obtain ⟨_, hNl, _⟩ := hh.ok m _ hm
  have nq := noHeap_get hno hq
  have nm := noHeap_get hno hm
  simp only [noBlk, Bool.and_eq_true, nbeq_iff] at nq nm
  have hql := getElem?_lt hq
  have hml := getElem?_lt hm
  have cas : ∀ {i y}, (joinH H q m (.lent b N nn ty sz row))[i]? = some y → (i = m ∧ y = .lent b N nn ty sz row) ∨ y = .dead ∨ (i ≠ m ∧ i ≠ q ∧ H[i]? = some y) := fun {i y} hy => by
    unfold joinH at hy
    rcases setB_at (by rw [setB_len]; exact hml) hy with h1 | ⟨e1, h1⟩
    · exact .inl h1
    · rcases setB_at hql h1 with ⟨_, h2⟩ | ⟨e2, h2⟩
      · exact .inr (.inl h2)
      · exact .inr (.inr ⟨e1, e2, h2⟩)
  have hjl : (joinH H q m (.lent b N nn ty sz row)).length = H.length := by unfold joinH; rw [setB_len, setB_len]
  have eo : ∀ i, i ≠ m → (E.one m k 0 0 0 nil none).blk i = E.blk i ∧ (E.one m k 0 0 0 nil none).delta i = E.delta i ∧ (E.one m k 0 0 0 nil none).len i = E.len i ∧ (E.one m k 0 0 0 nil none).cap i = E.cap i ∧ (E.one m k 0 0 0 nil none).isnil i = E.isnil i := fun i hi => by
    simp [Env.one, hi]
  have em : (E.one m k 0 0 0 nil none).blk m = k ∧ (E.one m k 0 0 0 nil none).isnil m = nil := by simp [Env.one]
  obtain ⟨b1, b2, b3, b4, b5⟩ := eo b nq.1
  obtain ⟨c1, c2, c3, c4, c5⟩ := eo N nm.2.1
  have src : ∀ {i y}, (joinH H q m (.lent b N nn ty sz row))[i]? = some y → liveAt (E.one m k 0 0 0 nil none) i y = true →
      ∃ i' y', H[i']? = some y' ∧ liveAt E i' y' = true ∧ y'.mine = y.mine ∧ E.blk i' = (E.one m k 0 0 0 nil none).blk i ∧ ((i = m ∧ (i' = q ∨ i' = m)) ∨ (i' = i ∧ i ≠ m ∧ i ≠ q)) := fun {i y} hy hl => by
    rcases cas hy with ⟨rfl, rfl⟩ | rfl | ⟨e1, e2, h4⟩
    · have hn : nil = false := by simpa [liveAt, em.2] using hl
      rcases h3 hn with ⟨k1, k2⟩ | ⟨k1, k2⟩
      · exact ⟨q, _, hq, by simp [liveAt, k1], rfl, by rw [em.1, k2], .inl ⟨rfl, .inl rfl⟩⟩
      · exact ⟨i, _, hm, by simp [liveAt, k1], rfl, by rw [em.1, k2], .inl ⟨rfl, .inr rfl⟩⟩
    · simp [liveAt] at hl
    · rw [liveAt_one e1] at hl
      exact ⟨i, y, h4, hl, rfl, (eo i e1).1.symm, .inr ⟨rfl, e1, e2⟩⟩
  refine ⟨_, ⟨k, nil, rfl⟩, ⟨fun i y hy => ?_, fun i i' y y' hy hy' hmi hl1 hl2 he => ?_⟩, fun j hj => ?_⟩
  · rw [hjl]
    rcases cas hy with ⟨rfl, rfl⟩ | rfl | ⟨e1, e2, h4⟩
    · refine ⟨hbl, hNl, hs, by rw [b2]; exact hd, hz, by rw [b3]; exact hl, by rw [b3, b4]; exact hc, by rw [b5]; exact hnil, fun hb0 => ?_, fun hn => ?_⟩
      · rw [b5] at hb0
        rw [b1, b4, c1, c4, c5, em.1, em.2]
        exact h1 hb0
      · rw [em.2] at hn
        obtain ⟨fz, spare, m1, m2, m3⟩ := h2 hn
        exact ⟨fz, spare, m1, by rw [b4]; exact m2, by rw [em.1, concs_one _ (noRow_vss nq.2.2)]; exact m3⟩
    · trivial
    · exact (hh.ok i y h4).one e1 (noHeap_get hno h4) (fun o ho => ho)
  · obtain ⟨j1, z1, q1, q2, q3, q4, q5⟩ := src hy hl1
    obtain ⟨j2, z2, r1, r2, r3, r4, r5⟩ := src hy' hl2
    have := hh.inj j1 j2 z1 z2 q1 r1 (by rw [q3]; exact hmi) q2 r2 (by rw [q4, r4, he])
    omega
  · obtain ⟨i, y, hy, m1, m2, m3⟩ := hj
    obtain ⟨j1, z1, q1, q2, q3, q4, q5⟩ := src hy m2
    exact ⟨j1, z1, q1, by rw [q3]; exact m1, q2, by rw [q4]; exact m3⟩
theorem join_ok {E : Env} {H : List Blk} {W : World} {m q n N b ty sz : Nat} {nn nn2 : Bool} {row row2 : Row} {tl : List V} (hh : Holds E H W) (hlen : H.length = m + 1) (hm : H[m]? = some (.lent n N nn2 ty sz row2)) (hq : H[q]? = some (.lent b n nn ty sz row))
    (hqm : q < m) (hno : noHeap m H = true) (hpre : row2.toVs = row.toVs ++ tl) :
    ∃ E', (∃ k' nil', E' = E.one m k' 0 0 0 nil' none) ∧ Holds E' (joinH H q m (.lent b N nn ty sz row)) W ∧ ∀ j, Mine E' (joinH H q m (.lent b N nn ty sz row)) j → Mine E H j := by
  obtain ⟨_, _, _, _, _, _, _, _, hor, hcell⟩ := hh.ok q _ hq
  obtain ⟨_, _, _, _, _, _, _, _, hor2, hcell2⟩ := hh.ok m _ hm
  cases hqn : E.isnil q with
  | false =>
    refine join_sub (k := E.blk q) (nil := false) hh hlen hm hq hqm hno (fun hb => .inr ⟨rfl, ?_⟩) (fun _ => hcell hqn) (fun _ => .inl ⟨hqn, rfl⟩)
    rcases hor hb with ⟨k1, _⟩ | ⟨_, k2⟩
    · rw [hqn] at k1; cases k1
    · exact k2
  | true =>
    cases hbn : E.isnil b with
    | true => exact join_sub (k := 0) (nil := true) hh hlen hm hq hqm hno (fun hb => by rw [hbn] at hb; cases hb) (fun h => by cases h) (fun h => by cases h)
    | false =>
      rcases hor hbn with ⟨_, k2, k3, k4⟩ | ⟨k1, _⟩
      · rcases hor2 k2 with ⟨_, j2, j3, j4⟩ | ⟨j1, j2⟩
        · exact join_sub (k := 0) (nil := true) hh hlen hm hq hqm hno (fun _ => .inl ⟨rfl, j2, k3.trans j3, k4.trans j4⟩) (fun h => by cases h) (fun h => by cases h)
        · refine join_sub (k := E.blk m) (nil := false) hh hlen hm hq hqm hno (fun _ => .inr ⟨rfl, k3.trans j2⟩) (fun _ => ?_) (fun _ => .inr ⟨j1, rfl⟩)
          obtain ⟨fz, spare, m1, m2, m3⟩ := hcell2 j1
          have hrl : row2.len = row.len + tl.length := by rw [Row.len_eq, hpre, List.length_append, Row.len_eq]
          refine ⟨fz, concs E tl ++ spare, ?_, ?_, ?_⟩
          · rw [List.length_append, concs_eq, List.length_map, ← Nat.add_assoc, ← hrl]; exact m1
          · rw [List.length_append, concs_eq, List.length_map, ← Nat.add_assoc, ← hrl, m2, k4]
          · rw [m3, hpre, concs_append, List.append_assoc]
      · rw [hqn] at k1; cases k1
theorem joinK_ok {n0 : Nat} {v : V} {H : List Blk} {r : R} {K : List Blk → Option R} (hn : h.length = n0) (hr : joinK n0 v H K = some r) (hs : OpSem P o ev h v H) : ∃ H', K H' = some r ∧ OpSem P o ev h v H' := by
  unfold joinK at hr
  split at hr
  · exact ⟨_, hr, hs⟩
  · rename_i m hlen
    split at hr
    · rename_i n N nn2 ty2 sz2 row2 hg
      split at hr
      · rename_i q b nn ty sz row hla
        split at hr
        · rename_i k l k' l2 hck hr1 hr2
          split at hr
          · rename_i hkk
            simp only [Bool.and_eq_true, decide_eq_true_eq, Nat.blt_eq, Nat.ble_eq] at hck hkk
            subst hkk
            obtain ⟨⟨q1, q2⟩, ⟨q3, q4⟩, q5, q6⟩ := hck
            have t1 := Nat.eq_of_beq_eq_true q3
            have t2 := Nat.eq_of_beq_eq_true q4
            subst t1; subst t2
            cases hcd : decide (List.take l.length l2 = l) with
            | false => rw [hcd] at hr; cases hr
            | true =>
              rw [hcd, cond_true] at hr
              obtain ⟨_, hq⟩ := lentTo_ok hla
              rw [Nat.sub_zero] at hq
              have hm := getB_some hg (by simp)
              have v1 : row.toVs = l.map (.int k) := by rw [← tidyR_ok, hr1]; rfl
              have v2 : row2.toVs = l2.map (.int k) := by rw [← tidyR_ok, hr2]; rfl
              have hpre : row2.toVs = row.toVs ++ (l2.drop l.length).map (.int k) := by
                rw [v1, v2, ← List.map_append]
                congr 1
                conv => lhs; rw [← List.take_append_drop l.length l2]
                rw [of_decide_eq_true hcd]
              refine ⟨_, hr, fun E a W hh hv next Q hnx => hs E a W hh hv next Q fun x E1 W1 hx h1 ht => ?_⟩
              obtain ⟨E', ⟨k', nil', rfl⟩, p1, p2⟩ := join_ok h1 hlen hm hq q1 q5 hpre
              have hjl : (joinH H q m (.lent b N nn ty2 sz2 row)).length = H.length := by unfold joinH; rw [setB_len, setB_len]
              refine hnx x _ W1 (by rw [hjl]; exact hx.one q6) p1 ⟨ht.agree.trans ((Agree.one E1 m k' 0 0 0 nil' none).mono (by omega)) (Nat.le_refl _), by rw [hjl]; exact ht.len, fun j hj => ht.mine j (p2 j hj), ht.frame, ht.size, ht.os, ht.tape, ht.output⟩
          · exact ⟨_, hr, hs⟩
        · exact ⟨_, hr, hs⟩
      · exact ⟨_, hr, hs⟩
    · exact ⟨_, hr, hs⟩
def aAppendY (P : Program) (t u : TypeId) (s x : V) (h : List Blk) (K : KOp R) : Option R := match hasMark2 h with
  | false => aAppendX P t u s x h K
  | true => aAppendX P t u s x h (fun v rd eff => match eff with
    | .all H => joinK h.length v H (fun H' => K v [] (.all H'))
    | e => K v rd e)
theorem ok_appendYM {c : Call} {t u : TypeId} {so xo : Operand} (ho : o.op = .call c) (hc : c.callee = .builtin .append) (hargs : c.args = #[so, xo]) (ht : c.argTypes[0]? = some t) (hu : c.argTypes[1]? = some u) {r : R} (hr : aAppendY P t u (ev so) (ev xo) h K = some r) :
    ∃ v rd eff, K v rd eff = some r ∧ Same h h rd eff ∧ OpEff P o ev h v rd eff ∧ BornM P o ev h v rd eff := by
  unfold aAppendY at hr
  split at hr
  · exact ok_appendXM ho hc hargs ht hu hr
  · obtain ⟨v, rd, eff, h1, h2, h3, h4⟩ := ok_appendXM ho hc hargs ht hu hr
    cases eff
    case all H =>
      obtain ⟨H', hk, hs⟩ := joinK_ok rfl h1 (h3 h h2)
      exact all_bornM hk hs
    all_goals exact ⟨v, rd, _, h1, h2, h3, h4⟩
theorem ok_appendY {c : Call} {t u : TypeId} {so xo : Operand} (ho : o.op = .call c) (hc : c.callee = .builtin .append) (hargs : c.args = #[so, xo]) (ht : c.argTypes[0]? = some t) (hu : c.argTypes[1]? = some u) :
    AopOk P o ev h (aAppendY P t u (ev so) (ev xo) h K) K := by
  intro r hr
  obtain ⟨v, rd, eff, h1, h2, h3, _⟩ := ok_appendYM ho hc hargs ht hu hr
  exact ⟨v, rd, eff, h1, h2, h3⟩
end
end Go.Eng

/- ENGINE, PART 5f: bytes and strings. -/
namespace Go.Eng
open Go

def bytesOf (l : List Int) : ByteArray := ⟨(l.map fun n => UInt8.ofNat n.toNat).toArray⟩
theorem foldl_push (l : List Int) : ∀ (s : ByteArray), l.foldl (fun r n => r.push (UInt8.ofNat n.toNat)) s = catS s (bytesOf l) := by
  induction l with
  | nil => intro s; cases s; simp [catS, bytesOf]
  | cons n r ih =>
    intro s
    rw [List.foldl_cons, ih]
    simp [catS, bytesOf, ByteArray.push]
def rowBytes : Row → Option ByteArray
  | .ints .u8 l => some (bytesOf l)
  | .vs l => match intsVs .u8 l with
    | some m => some (bytesOf m)
    | none => none
  | _ => none
theorem rowBytes_ok {row : Row} {s : ByteArray} (h : rowBytes row = some s) : ∃ l : List Int, row.toVs = l.map (.int .u8) ∧ s = bytesOf l := by
  unfold rowBytes at h
  split at h
  · injection h with h; exact ⟨_, rfl, h.symm⟩
  · split at h
    · rename_i m hm; injection h with h; exact ⟨m, intsVs_ok hm, h.symm⟩
    · cases h
  · cases h

section
variable {R : Type} {P : Program} {o : Oper} {ev : Operand → V} {h : List Blk} {K : KOp R}

def srcRd : V → List Nat
  | .gs b | .view b _ _ _ | .aslice b _ _ _ => [b]
  | _ => []
theorem srcK_flat {v : Value} {sz : Nat} {h h2 : List Blk} {Ks : Row → Option R} : srcK (.flat v) sz h2 Ks = srcK (.flat v) sz h Ks := by
  cases v <;> try rfl
  rename_i ba l c
  cases l <;> try rfl
  cases c <;> rfl
theorem srcK_same {x : V} {sz : Nat} {h2 : List Blk} {Ks : Row → Option R} (hs : ∀ b ∈ srcRd x, h2[b]? = h[b]?) : srcK x sz h2 Ks = srcK x sz h Ks := by
  have : ∀ b, b ∈ srcRd x → getB h2 b = getB h b := fun b hb => by rw [getB_eq, getB_eq, hs b hb]
  cases x
  case gs b => simp only [srcK, this b (by simp [srcRd])]
  case view b l sz2 len => simp only [srcK, this b (by simp [srcRd])]
  case aslice b off len cap => simp only [srcK, this b (by simp [srcRd])]
  case flat v => exact srcK_flat
  all_goals rfl
theorem srcK_bind {x : V} {sz : Nat} {Ks : Row → Option R} : srcK x sz h Ks = (srcK x sz h (fun q => some q)).bind Ks := by
  cases x
  case gs b =>
    simp only [srcK]
    cases sliceRow (getB h b) with
    | none => rfl
    | some p => obtain ⟨a, q⟩ := p; simp only; cases Nat.beq a sz <;> rfl
  case view b l sz2 len =>
    simp only [srcK]
    cases sliceRow (getB h b) with
    | none => rfl
    | some p =>
      obtain ⟨a, q⟩ := p
      simp only
      cases (Nat.beq a sz && Nat.beq sz2 sz) with
      | false => rfl
      | true =>
        simp only
        cases decide (l + len ≤ elemsN q.len sz) with
        | false => rfl
        | true => simp only [cond_true]; cases rowSub q (mulS l sz) (mulS len sz) <;> rfl
  case aslice b off len cap =>
    simp only [srcK]
    cases getB h b <;> try rfl
    rename_i ty row
    simp only
    cases rowSub row off (mulS len sz) with
    | none => rfl
    | some q => simp only; cases decide (off + mulS len sz ≤ row.len) <;> rfl
  case flat v =>
    cases v <;> try rfl
    rename_i ba l c
    cases l <;> try rfl
    cases c <;> rfl
  case str s => simp only [srcK]; cases Nat.beq sz 1 <;> rfl
  all_goals rfl
theorem srcK_row {x : V} {sz : Nat} {Ks : Row → Option R} {r : R} (hr : srcK x sz h Ks = some r) : ∃ row, Ks row = some r ∧ srcK x sz h (fun q => some q) = some row := by
  rw [srcK_bind] at hr
  cases hs : srcK x sz h (fun q => some q) with
  | none => rw [hs] at hr; cases hr
  | some row => rw [hs] at hr; exact ⟨row, hr, rfl⟩

def notStr : V → Bool
  | .str _ => false
  | _ => true
theorem srcK_slice {x : V} {sz : Nat} {Ks : Row → Option R} {r : R} (hr : srcK x sz h Ks = some r) (hns : notStr x = true) {E : Env} {n : Nat} {y : Value} (hy : VR E n x y) : ∃ ba m c, y = .slice ba m c := by
  unfold srcK at hr
  split at hr
  · rename_i b
    rw [(hy.val (by simp)).1, conc]
    cases E.isnil b <;> exact ⟨_, _, _, rfl⟩
  · rename_i b _ _ _
    rw [(hy.val (by simp)).1, conc]
    cases E.isnil b <;> exact ⟨_, _, _, rfl⟩
  · exact ⟨_, _, _, (hy.val (by simp)).1⟩
  · exact ⟨_, _, _, (hy.val (by simp)).1⟩
  · simp [notStr] at hns
  · cases hr
def aConv (P : Program) (src dst : TypeId) (x : V) (h : List Blk) (K : KOp R) : Option R := match P.underlying src, P.underlying dst with
  | some (.slice e), some .string => match P.underlying e with
    | some (.int .u8) => match notStr x with
      | true => srcK x 1 h (fun row => match rowBytes row with
        | some s => K (.str s) (srcRd x) .none
        | none => none)
      | false => none
    | _ => none
  | some .string, some (.slice e) => match P.underlying e, x with
    | some (.int .u8), .str s => K (.gs h.length) [] (.push h.length (.grow true e 1 (.ints .u8 (bytesI s))))
    | _, _ => none
  | _, _ => aConvert P src dst x K
theorem ok_conv {src dst : TypeId} {x : Operand} (ho : o.op = .convert src dst x) : AopOk P o ev h (aConv P src dst (ev x) h K) K := by
  intro r hr
  unfold aConv at hr
  split at hr
  · rename_i e hsr hds
    split at hr
    · rename_i he
      split at hr
      · rename_i hns
        obtain ⟨row, hk, hrow⟩ := srcK_row hr
        split at hk
        · rename_i s hs
          obtain ⟨l, hl, hsl⟩ := rowBytes_ok hs
          refine ⟨_, _, _, hk, fun _ _ => rfl, fun h2 hsame => OpSem.value fun E a W hh hv => ⟨.string s, VR.mkStr, ?_⟩⟩
          have hrow2 : srcK (ev x) 1 h2 (fun q => some q) = some row := by rw [srcK_same (h := h) hsame]; exact hrow
          obtain ⟨row', e1, H⟩ := srcK_ok (P := P) (by omega) hrow2
          injection e1 with e1
          subst e1
          have hvx := hv x (by simp [ho, Op.operands])
          obtain ⟨hin, n, hn, hlen, hf⟩ := H E W hh _ hvx
          have hf := hf W hh
          rw [hl, concs_eq, List.map_map] at hf
          have hlv : (conc E ∘ V.int IntKind.u8) = Value.int .u8 := by funext z; simp [conc]
          rw [hlv] at hf
          simp only [execOp, ho, Sem.run_bind]
          obtain ⟨ba, m, c, hy⟩ := srcK_slice hrow2 hns hvx
          rw [hy] at hlen hf ⊢
          rw [run_convert_bytes_string W src dst e ba m c hsr he hds]
          have hmn : m = n := by
            have := hlen W
            simp only [Builtin.lenOf, Sem.run_pure] at this
            injection this
          subst hmn
          cases ba with
          | none =>
            simp only [Builtin.firstCells, Sem.run_pure] at hf
            have hl0 : l = [] := by
              cases l with
              | nil => rfl
              | cons z r => simp at hf
            subst hl0
            subst hsl
            simp only [Conv.bytesToString, Sem.run_pure, Result.andThen_ok]
            congr 3
          | some ad =>
            simp only [Builtin.firstCells, Nat.mul_one] at hf
            rw [run_bytesToString W ad m c l hf, foldl_push]
            simp only [Result.andThen_ok, Sem.run_pure]
            rw [hsl]
            congr 3
        · cases hk
      · cases hr
    · cases hr
  · rename_i e hsr hds
    split at hr
    · rename_i s he hx
      refine ⟨_, _, _, hr, ⟨fun _ _ => rfl, rfl⟩, fun h2 hs => ?_⟩
      obtain ⟨_, hlen⟩ := hs
      intro E a W hh hv next Q hnext
      have hvx := hv x (by simp [ho, Op.operands])
      rw [hx] at hvx
      have hrow : (Row.ints .u8 (bytesI s)).toVs = (bytesI s).map (.int .u8) := rfl
      have hin : ∀ n, inSs n (Row.ints .u8 (bytesI s)).toVs = true := fun n => by
        rw [hrow, inSs_eq, List.all_eq_true]; intro v hv; obtain ⟨z, _, rfl⟩ := List.mem_map.1 hv; rfl
      have hbl : (bytesI s).length = s.size := by rw [lenS_eq, lenS, bytesI, List.length_map]
      obtain ⟨cap, hcap, hrun⟩ : ∃ cap, s.size ≤ cap ∧ (execOp a.eval o).run P W = .ok (.value (.slice (some ⟨W.heap.size, 0, none⟩) s.size cap))
          (W.drew.alloc (.cells (concs E (Row.ints .u8 (bytesI s)).toVs ++ List.replicate (cap - s.size) (Value.int .u8 0)).toArray e (cap, cap + 1))) := by
        refine ⟨(Question.appendCap s.size 0 e).cut (W.tape W.drawn (.appendCap s.size 0 e)), by simp [Question.cut], ?_⟩
        generalize hcap : (Question.appendCap s.size 0 e).cut (W.tape W.drawn (.appendCap s.size 0 e)) = cap
        have hc : s.size ≤ cap := by rw [← hcap]; simp [Question.cut]
        have hcells : s.data.map (fun b => Value.int .u8 b.toNat) ++ Array.replicate (cap - s.size) (Value.int .u8 0) = (concs E (Row.ints .u8 (bytesI s)).toVs ++ List.replicate (cap - s.size) (Value.int .u8 0)).toArray := by
          apply Array.ext'
          rw [hrow]
          simp [concs_eq, bytesI, conc, Function.comp_def]
        have hsz : (concs E (Row.ints .u8 (bytesI s)).toVs ++ List.replicate (cap - s.size) (Value.int .u8 0)).length = cap := by
          rw [List.length_append, concs_eq, List.length_map, hrow, List.length_map, hbl, List.length_replicate]; omega
        generalize (concs E (Row.ints .u8 (bytesI s)).toVs ++ List.replicate (cap - s.size) (Value.int .u8 0)) = arr at hcells hsz ⊢
        simp only [execOp, ho, hvx.str, Sem.run_bind, convert, run_underlying hsr, run_underlying hds, Result.andThen_ok, run_underlying he, Conv.stringToBytes, run_choose, Question.forced, Bool.false_eq_true, if_false, hcap, World.drew_eq, newRow, run_newObj, World.alloc_eq, Sem.run_pure, hcells]
        simp only [markStringish, Sem.run_bind, run_shape, Result.andThen_ok]
        have hnew : (W.drew.alloc (.cells arr.toArray e)).heap[W.drew.heap.size]? = some (.cells arr.toArray e) := World.alloc_heap_new _ _
        have hsh : (W.drew.alloc (.cells arr.toArray e)).shape? W.drew.heap.size = some (e, cap) := by
          unfold World.shape?
          rw [hnew]
          simp [hsz]
        rw [hsh]
        simp only [run_freeze, Result.andThen_ok]
        have hfr : World.freeze (W.drew.alloc (.cells arr.toArray e)) ⟨W.drew.heap.size, cap, none⟩ 1 = W.drew.alloc (.cells arr.toArray e (cap, cap + 1)) := by
          unfold World.freeze
          rw [if_neg (by omega)]
          simp only [World.alloc]
          congr 1
          apply Array.ext'
          apply List.ext_getElem?
          intro k
          simp only [Array.getElem?_toList, Array.getElem?_modify, Array.getElem?_push]
          by_cases hk : W.drew.heap.size = k
          · subst hk; simp
          · have h1 : ¬ W.heap.size = k := hk
            have h2 : ¬ k = W.heap.size := fun e => hk e.symm
            simp [h1, h2]
        first | rw [hfr] | (simp only [hfr])
        rfl
      have hE := Agree.put E h2.length W.drew.heap.size s.size cap false
      obtain ⟨h1, h3⟩ := hh.drew.newBlk (.cells (concs E (Row.ints .u8 (bytesI s)).toVs ++ List.replicate (cap - s.size) (Value.int .u8 0)).toArray e (cap, cap + 1)) s.size cap (.grow true e 1 (.ints .u8 (bytesI s))) (by
        refine ⟨by simp [Env.put], hin _, by omega, by simp [Env.put, Row.len, hbl], by simp [Env.put, hcap], fun h => by simp [Env.put] at h, fun _ => ⟨(cap, cap + 1), List.replicate (cap - s.size) (Value.int .u8 0), ?_, by simp [Env.put, Row.len, hbl]; omega, ?_⟩⟩
        · intro q hq hx
          have hx1 := hx.1
          simp only [Row.len, hbl, List.length_replicate] at hq
          simp only at hx1
          omega
        · rw [concs_agree hE _ (hin _)]
          simp only [Env.put, if_true]
          exact World.alloc_heap_new _ _)
      refine Oper.wpE_value hrun ?_
      rw [hlen] at h1 h3
      refine hnext _ _ _ (.inr ⟨?_, ?_⟩) h1 (Trans.drew.trans h3)
      · simp [inS, HEff.app, ← hlen]
      · simp [conc, Env.put]
    · cases hr
  · exact ok_convert ho r hr

end
end Go.Eng

/- ENGINE, PART 5g: slices beside nil. -/
namespace Go.Eng
open Go
section
variable {R : Type} {P : Program} {o : Oper} {ev : Operand → V} {h : List Blk} {K : KOp R}

def pos : Nat → Bool
  | 0 => false
  | _ + 1 => true
/-- The slice over this block is not nil. -/
def nnB : Blk → Bool
  | .rs nn _ row | .grow nn _ _ row => cond nn true (pos row.len)
  | _ => false
theorem nnB_ok {blk : Blk} (hb : nnB blk = true) {E : Env} {n b : Nat} {W : World} (hk : BlkOk E n W b blk) : E.isnil b = false ∧ blk ≠ .dead := by
  cases blk <;> simp only [nnB] at hb <;> try cases hb
  · obtain ⟨_, _, _, _, h4, _⟩ := hk
    refine ⟨?_, by simp⟩
    cases hn : E.isnil b with
    | false => rfl
    | true =>
      obtain ⟨e1, e2⟩ := h4 hn
      rw [e2, cond_false, e1] at hb
      cases hb
  · obtain ⟨_, _, _, _, _, h4, _⟩ := hk
    refine ⟨?_, by simp⟩
    cases hn : E.isnil b with
    | false => rfl
    | true =>
      obtain ⟨e1, e2⟩ := h4 hn
      rw [e2, cond_false, e1] at hb
      cases hb
/-- Whether a slice is nil, as far as it is known. -/
def isNil (x : V) (h : List Blk) (K : Bool → List Nat → Option R) : Option R := match x with
  | .gs b => cond (nnB (getB h b)) (K false [b]) none
  | .view b _ _ _ => cond (nnB (getB h b)) (K false [b]) none
  | .aslice _ _ _ _ => K false []
  | .flat (.slice ba 0 0) => K ba.isNone []
  | _ => none
theorem isNil_ok {x : V} {Kq : Bool → List Nat → Option R} {r : R} (hr : isNil x h Kq = some r) : ∃ q rd, Kq q rd = some r ∧
    ∀ h2, (∀ b ∈ rd, h2[b]? = h[b]?) → ∀ E W, Holds E h2 W → ∀ y, VR E h2.length x y → ∃ ba n c, y = .slice ba n c ∧ ba.isNone = q := by
  unfold isNil at hr
  split at hr
  · rename_i b
    cases hq : nnB (getB h b) with
    | false => rw [hq] at hr; cases hr
    | true =>
      rw [hq, cond_true] at hr
      refine ⟨_, _, hr, fun h2 hs E W hh y hy => ?_⟩
      have hb := getB_some (h := h) (b := b) rfl (fun e => by rw [e] at hq; cases hq)
      have hb2 : h2[b]? = some (getB h b) := (hs b (by simp)).trans hb
      obtain ⟨h1, _⟩ := nnB_ok hq (hh.ok b _ hb2)
      exact ⟨_, _, _, by rw [(hy.val (by simp)).1, conc, h1, cond_false], rfl⟩
  · rename_i b _ _ _
    cases hq : nnB (getB h b) with
    | false => rw [hq] at hr; cases hr
    | true =>
      rw [hq, cond_true] at hr
      refine ⟨_, _, hr, fun h2 hs E W hh y hy => ?_⟩
      have hb := getB_some (h := h) (b := b) rfl (fun e => by rw [e] at hq; cases hq)
      have hb2 : h2[b]? = some (getB h b) := (hs b (by simp)).trans hb
      obtain ⟨h1, _⟩ := nnB_ok hq (hh.ok b _ hb2)
      exact ⟨_, _, _, by rw [(hy.val (by simp)).1, conc, h1, cond_false], rfl⟩
  · exact ⟨_, _, hr, fun h2 _ E W hh y hy => ⟨_, _, _, (hy.val (by simp)).1, rfl⟩⟩
  · exact ⟨_, _, hr, fun h2 _ E W hh y hy => ⟨_, _, _, (hy.val (by simp)).1, rfl⟩⟩
  · cases hr

def aBinX (P : Program) (op : BinOp) (t : TypeId) (x y : V) (h : List Blk) (K : KOp R) : Option R := match y with
  | .flat (.slice none 0 0) => match P.underlying t with
    | some (.slice _) => isNil x h (fun q rd => match op with
      | .eql => K (.bool q) rd .none
      | .neq => K (.bool (!q)) rd .none
      | _ => none)
    | _ => none
  | y => aBin P op t x y K
theorem eqGuard_slice {op : BinOp} {t : TypeId} {x y : Operand} {ba : Option Addr} {n c : Nat} {v : Value} (W : World) : (eqGuard op t x y (.slice ba n c) v).run P W = .ok () W := by
  unfold eqGuard
  split <;> simp
theorem ok_binX {op : BinOp} {t yt : TypeId} {x y : Operand} (ho : o.op = .binOp op t x y yt) : AopOk P o ev h (aBinX P op t (ev x) (ev y) h K) K := by
  intro r hr
  unfold aBinX at hr
  split at hr
  · rename_i hy
    split at hr
    · rename_i e he
      obtain ⟨q, rd, hk, H⟩ := isNil_ok hr
      have main : ∀ (h2 : List Blk), (∀ b ∈ rd, h2[b]? = h[b]?) → ∀ E (a : Act) W, Holds E h2 W → (∀ x ∈ o.op.operands, VR E h2.length (ev x) (a.eval x)) →
          ∃ ba n c, a.eval x = .slice ba n c ∧ ba.isNone = q ∧ a.eval y = .slice none 0 0 := fun h2 hs E a W hh hv => by
        obtain ⟨ba, n, c, h1, h2'⟩ := H h2 hs E W hh _ (hv x (by simp [ho, Op.operands]))
        have h3 := hv y (by simp [ho, Op.operands])
        rw [hy] at h3
        exact ⟨ba, n, c, h1, h2', (h3.val (by simp)).1⟩
      split at hk
      · refine ⟨_, _, _, hk, fun _ _ => rfl, fun h2 hs => OpSem.value fun E a W hh hv => ⟨.bool q, VR.mkBool, ?_⟩⟩
        obtain ⟨ba, n, c, h1, h2', h3⟩ := main h2 hs E a W hh hv
        simp only [execOp, ho, h1, h3, Sem.run_bind, eqGuard_slice, Result.andThen_ok, binOp, run_equal_slice_nil _ t e ba n c he, Sem.run_pure, h2']
      · refine ⟨_, _, _, hk, fun _ _ => rfl, fun h2 hs => OpSem.value fun E a W hh hv => ⟨.bool (!q), VR.mkBool, ?_⟩⟩
        obtain ⟨ba, n, c, h1, h2', h3⟩ := main h2 hs E a W hh hv
        simp only [execOp, ho, h1, h3, Sem.run_bind, eqGuard_slice, Result.andThen_ok, binOp, run_equal_slice_nil _ t e ba n c he, Sem.run_pure, h2']
      · cases hk
    · cases hr
  · exact ok_bin ho r hr
end
end Go.Eng

/- ENGINE, PART 5h: copy into an array of ours. -/
namespace Go.Eng
open Go
section
variable {R : Type} {P : Program} {o : Oper} {ev : Operand → V} {h : List Blk} {K : KOp R}
/-- All cells of what is copied go into the array: it is long enough. -/
def aCopy (P : Program) (t : TypeId) (d x : V) (h : List Blk) (K : KOp R) : Option R := match P.underlying t with
  | some (.slice e) => match szT P e with
    | some 1 => match d with
      | .aslice b off len _ => match getB h b with
        | .own ty row => srcK x 1 h (fun row2 => match row2.toVs with
          | [] => none
          | v :: q => match rowOne row2 with
            | true => cond (decide (row2.len ≤ len)) (rowSet row off (v :: q) (fun row' => K (.int .i64 (Int.ofNat row2.len)) [] (.all (setB h b (.own ty row'))))) none
            | false => none)
        | _ => none
      | _ => none
    | _ => none
  | _ => none
theorem ok_copy {c : Call} {t : TypeId} {so xo : Operand} (ho : o.op = .call c) (hc : c.callee = .builtin .copy) (hargs : c.args = #[so, xo]) (ht : c.argTypes[0]? = some t) :
    AopOk P o ev h (aCopy P t (ev so) (ev xo) h K) K := by
  intro r hr
  generalize hsv : ev so = sv at hr
  unfold aCopy at hr
  split at hr
  · rename_i e hte
    split at hr
    · rename_i hsz
      split at hr
      · rename_i b off len cap
        split at hr
        · rename_i ty row hblk
          obtain ⟨row2, hr2, Hsrc⟩ := srcK_ok (P := P) (by omega) hr
          split at hr2
          · cases hr2
          · rename_i v q hvq
            split at hr2
            · rename_i hone
              cases hcd : decide (row2.len ≤ len) with
              | false => rw [hcd] at hr2; cases hr2
              | true =>
                rw [hcd, cond_true] at hr2
                simp only [decide_eq_true_eq] at hcd
                obtain ⟨row', hk, hfit, hrow⟩ := rowSet_ok hr2
                refine ⟨_, _, _, hk, rfl, fun hx hsame => ?_⟩
                have hsame : hx = h := hsame
                subst hsame
                intro E a W hh hv next Q hnext
                have hops : ∀ y, y = so ∨ y = xo → VR E hx.length (ev y) (a.eval y) := fun y hy => hv y (by
                  rw [ho]; simp only [Op.operands, Call.operands, hc, hargs]; rcases hy with rfl | rfl <;> simp)
                obtain ⟨hin2, n, hn, hlen2, hfirst2⟩ := Hsrc E W hh _ (hops xo (.inr rfl))
                have hso := hops so (.inl rfl)
                rw [hsv] at hso
                have hs := (hso.val (by simp)).1
                have hb := getB_some hblk (by simp)
                rw [hvq] at hin2 hn hfirst2
                have honeV : ∀ u ∈ v :: q, oneV u = true := fun u hu => by
                  rw [← hvq] at hu
                  cases row2 with
                  | vs l => exact allOne_mem hone u hu
                  | ints k l => obtain ⟨z, _, rfl⟩ := List.mem_map.1 hu; rfl
                  | strs l => obtain ⟨z, _, rfl⟩ := List.mem_map.1 hu; rfl
                obtain ⟨W', hst, h1, h3⟩ := hh.store (P := P) hb (blk' := .own ty row') (.inl ⟨ty, row, rfl, rfl⟩) (by simp) hfit hrow hin2 honeV
                have hrl : row2.len = n := by rw [Row.len_eq, hvq]; omega
                have hmin : Nat.min n len = n := Nat.min_eq_left (by omega)
                have hrun : (Builtin.copy_ c.argTypes o.type #[a.eval so, a.eval xo]).run P W = .ok (.int .i64 n) W' := by
                  unfold Builtin.copy_
                  rw [hs, conc]
                  obtain ⟨i, hi, hi1⟩ : ∃ i, P.info? e = some i ∧ i.size = 1 := by
                    unfold szT at hsz
                    cases hi : P.info? e with
                    | none => rw [hi] at hsz; simp at hsz
                    | some i => rw [hi] at hsz; exact ⟨i, rfl, by simpa using hsz⟩
                  simp only [ht, List.getElem?_toArray, List.getElem?_cons_zero, List.getElem?_cons_succ, Sem.run_bind, run_underlying hte, Result.andThen_ok, hlen2, hmin, run_szT hsz, hfirst2 W hh, hst, Sem.run_pure, goInt]
                have hargs' : c.args.map a.eval = #[a.eval so, a.eval xo] := by rw [hargs]; simp
                have hrun' : (execOp a.eval o).run P W = .ok (.value (.int .i64 n)) W' := by
                  simp only [execOp, ho, resolve, hc, Sem.run_bind, Sem.run_pure, Result.andThen_ok, invoke, builtin, hargs', hrun]
                refine Oper.wpE_value hrun' ?_
                exact hnext _ _ _ (.inr ⟨rfl, by rw [hrl]; rfl⟩) h1 h3
            · cases hr2
        · cases hr
      · cases hr
    · cases hr
  · cases hr
end
end Go.Eng

/- ENGINE, PART 5l: copying strings out of a slice of unknown length into an array of ours. -/
namespace Go.Eng
open Go
section
variable {R : Type} {P : Program} {o : Oper} {ev : Operand → V} {h : List Blk} {K : KOp R}
def strsV : List V → Option (List ByteArray)
  | [] => some []
  | .str s :: r => match strsV r with
    | some l => some (s :: l)
    | none => none
  | _ => none
theorem strsV_ok : ∀ {l : List V} {m : List ByteArray}, strsV l = some m → l = m.map .str
  | [], m, h => by simp [strsV] at h; subst h; rfl
  | v :: r, m, h => by
    cases v <;> simp only [strsV] at h <;> try cases h
    split at h
    · rename_i l hl
      injection h with h
      subst h
      simp [strsV_ok hl]
    · cases h
def strsR : Row → Option (List ByteArray)
  | .strs l => some l
  | .vs l => strsV l
  | _ => none
theorem strsR_ok {r : Row} {m : List ByteArray} (h : strsR r = some m) : r.toVs = m.map .str := by
  cases r with
  | strs l => simp only [strsR, Option.some.injEq] at h; subst h; rfl
  | vs l => exact strsV_ok h
  | ints k l => cases h
/-- What lies in the array behind the copying: k is the index of the first string. -/
def mixS (ss : List ByteArray) (l m : Nat) : Nat → List ByteArray → List ByteArray
  | _, [] => []
  | k, s :: r => (bif decide (k < m) then ss.getD (l + k) s else s) :: mixS ss l m (k + 1) r
theorem mixS_len (ss : List ByteArray) (l m : Nat) : ∀ (k : Nat) (r : List ByteArray), (mixS ss l m k r).length = r.length
  | _, [] => rfl
  | k, s :: r => by simp [mixS, mixS_len ss l m (k + 1) r]
theorem mixS_get (ss : List ByteArray) (l m : Nat) : ∀ (k j : Nat) (r : List ByteArray), (mixS ss l m k r)[j]? = (r[j]?).map fun s => bif decide (k + j < m) then ss.getD (l + (k + j)) s else s
  | _, _, [] => by simp [mixS]
  | k, 0, s :: r => by simp [mixS]
  | k, j + 1, s :: r => by
    simp only [mixS, List.getElem?_cons_succ]
    rw [mixS_get ss l m (k + 1) j r, show k + 1 + j = k + (j + 1) by omega]
theorem mixS_splice (ss os : List ByteArray) (l m : Nat) (h : l + m ≤ ss.length) : mixS ss l m 0 os = splice os 0 ((ss.drop l).take (min m os.length)) := by
  apply List.ext_getElem?
  intro j
  rw [mixS_get]
  have hcl : ((ss.drop l).take (min m os.length)).length = min m os.length := by rw [List.length_take, List.length_drop]; omega
  simp only [splice, List.take_zero, List.nil_append, Nat.zero_add, hcl]
  rcases Nat.lt_or_ge j (min m os.length) with hj | hj
  · rw [List.getElem?_append_left (by rw [hcl]; exact hj), List.getElem?_take, if_pos hj, List.getElem?_drop]
    have h1 : j < os.length := by omega
    have h2 : l + j < ss.length := by omega
    rw [List.getElem?_eq_getElem h1, List.getElem?_eq_getElem h2]
    simp only [Option.map_some, decide_eq_true (show j < m by omega), cond_true, List.getD_eq_getElem?_getD, List.getElem?_eq_getElem h2, Option.getD_some]
  · rw [List.getElem?_append_right (by rw [hcl]; exact hj), hcl, List.getElem?_drop, show min m os.length + (j - min m os.length) = j by omega]
    rcases Nat.lt_or_ge j os.length with h1 | h1
    · rw [List.getElem?_eq_getElem h1]
      simp only [Option.map_some, decide_eq_false (show ¬ j < m by omega), cond_false]
    · rw [List.getElem?_eq_none h1]; rfl
def aCopyX (P : Program) (t : TypeId) (d x : V) (h : List Blk) (K : KOp R) : Option R := match d, x with
  | .aslice b off len cap, .view bx l sz m => match getB h b, sliceRow (getB h bx) with
    | .own ty old, some (sz2, .strs ss) => match strsR old, P.underlying t with
      | some os, some (.slice e) => match szT P e with
        | some sz3 => match Nat.beq sz3 1 && (Nat.beq sz 1 && (Nat.beq sz2 1 && (Nat.beq off 0 && Nat.beq os.length len))) with
          | true => cond (decide (l + m ≤ ss.length)) (K (.int .i64 (Int.ofNat (min m len))) [] (.all (setB h b (.own ty (.strs (mixS ss l m 0 os)))))) none
          | false => none
        | none => none
      | _, _ => aCopy P t (.aslice b off len cap) (.view bx l sz m) h K
    | _, _ => aCopy P t (.aslice b off len cap) (.view bx l sz m) h K
  | d, x => aCopy P t d x h K
theorem ok_copyX {c : Call} {t : TypeId} {so xo : Operand} (ho : o.op = .call c) (hc : c.callee = .builtin .copy) (hargs : c.args = #[so, xo]) (ht : c.argTypes[0]? = some t) :
    AopOk P o ev h (aCopyX P t (ev so) (ev xo) h K) K := by
  intro r hr
  have base : ∀ {r}, aCopy P t (ev so) (ev xo) h K = some r → _ := fun {r} hr => ok_copy (P := P) (o := o) (ev := ev) (h := h) (K := K) ho hc hargs ht r hr
  generalize hsv : ev so = sv at hr base
  generalize hxv : ev xo = xv at hr base
  unfold aCopyX at hr
  split at hr
  · rename_i b off len cap bx l sz m
    split at hr
    · rename_i ty old sz2 ss hblk hsr
      split at hr
      · rename_i os e hos hte
        split at hr
        · rename_i sz3 hsz
          split at hr
          · rename_i hq
            simp only [Bool.and_eq_true] at hq
            have q1 := Nat.eq_of_beq_eq_true hq.1
            have q2 := Nat.eq_of_beq_eq_true hq.2.1
            have q3 := Nat.eq_of_beq_eq_true hq.2.2.1
            have q4 := Nat.eq_of_beq_eq_true hq.2.2.2.1
            have q5 := Nat.eq_of_beq_eq_true hq.2.2.2.2
            subst q1; subst q2; subst q3; subst q4; subst q5
            cases hcd : decide (l + m ≤ ss.length) with
            | false => rw [hcd] at hr; cases hr
            | true =>
              rw [hcd, cond_true] at hr
              simp only [decide_eq_true_eq] at hcd
              refine ⟨_, _, _, hr, rfl, fun hx hsame => ?_⟩
              have hsame : hx = h := hsame
              subst hsame
              intro E a W hh hv next Q hnext
              have hops : ∀ y, y = so ∨ y = xo → VR E hx.length (ev y) (a.eval y) := fun y hy => hv y (by
                rw [ho]; simp only [Op.operands, Call.operands, hc, hargs]; rcases hy with rfl | rfl <;> simp)
              have hso := hops so (.inl rfl)
              rw [hsv] at hso
              have hs := (hso.val (by simp)).1
              have hxo := hops xo (.inr rfl)
              rw [hxv] at hxo
              have hxs := (hxo.val (by simp)).1
              have hb := getB_some hblk (by simp)
              have hne : getB hx bx ≠ .dead := fun e => by rw [e] at hsr; simp [sliceRow] at hsr
              have hbx := getB_some rfl hne
              obtain ⟨hrow, hz, hl, hcap, hnil, _⟩ := sliceRow_ok hsr (hh.ok bx _ hbx)
              have hold := strsR_ok hos
              have hrl : (Row.strs ss).len = ss.length := rfl
              rw [hrl] at hl hnil
              -- what is copied
              have hcs : ∀ W1, W1 = W → (Builtin.lenOf (a.eval xo)).run P W1 = .ok m W1 ∧ (Builtin.firstCells 1 (min m os.length) (a.eval xo)).run P W1 = .ok (concs E (((ss.drop l).take (min m os.length)).map .str)).toArray W1 := by
                intro W1 e1
                subst e1
                rw [hxs, conc]
                cases hn : E.isnil bx with
                | true =>
                  have h3 := hnil hn
                  have hm0 : m = 0 := by omega
                  subst hm0
                  refine ⟨by simp [Builtin.lenOf], ?_⟩
                  simp only [cond_true, Nat.zero_min, List.take_zero, List.map_nil]
                  cases E.base bx <;> simp [Builtin.firstCells, concs, loadCells, loadCellsFrom]
                | false =>
                  refine ⟨by simp [Builtin.lenOf], ?_⟩
                  simp only [cond_false, Builtin.firstCells, Nat.mul_one]
                  have hlen : (((ss.drop l).take (min m os.length)).map V.str).length = min m os.length := by rw [List.length_map, List.length_take, List.length_drop]; omega
                  have hload := run_loadCells_list (P := P) W1 (if E.cap bx = l then ⟨E.blk bx, E.delta bx, none⟩ else ⟨E.blk bx, E.delta bx + l, none⟩) (concs E (((ss.drop l).take (min m os.length)).map .str)) (fun j v hj => by
                    rw [concs_eq, List.getElem?_map, List.getElem?_map] at hj
                    rw [List.getElem?_take] at hj
                    split at hj
                    · rename_i hjm
                      rw [List.getElem?_drop] at hj
                      cases hg : ss[l + j]? with
                      | none => rw [hg] at hj; cases hj
                      | some s =>
                        rw [hg] at hj
                        simp only [Option.map_some, Option.some.injEq] at hj
                        have hlt := getElem?_lt hg
                        rw [if_neg (by omega), Addr_add_lit, ← hj]
                        have := (hh.cell hbx (i := l + j) (v := .str s) (by rw [hrow]; simp [Row.toVs, hg])).1
                        rw [Nat.add_assoc]
                        exact this
                    · cases hj)
                  rw [concs_eq, List.length_map, hlen, ← concs_eq] at hload
                  exact hload
              obtain ⟨hlen2, hfirst2⟩ := hcs W rfl
              have hrow' : (Row.strs (mixS ss l m 0 os)).toVs = splice (Blk.own ty old).row.toVs 0 (((ss.drop l).take (min m os.length)).map V.str) := by
                show (mixS ss l m 0 os).map V.str = splice old.toVs 0 _
                rw [hold, ← splice_map, mixS_splice ss os l m hcd]
              have hfit : 0 + (((ss.drop l).take (min m os.length)).map V.str).length ≤ (Blk.own ty old).row.len := by
                simp only [Blk.row]
                rw [Row.len_eq, hold, List.length_map, List.length_map, List.length_take, List.length_drop]; omega
              have hst : ∃ W', (storeCells ⟨E.blk b, E.delta b + 0, none⟩ (concs E (((ss.drop l).take (min m os.length)).map .str))).run P W = .ok () W' ∧ Holds E (setB hx b (.own ty (.strs (mixS ss l m 0 os)))) W' ∧ Trans E hx W E (setB hx b (.own ty (.strs (mixS ss l m 0 os)))) W' := by
                by_cases hz0 : (((ss.drop l).take (min m os.length)).map V.str) = []
                · have e2 : (Row.strs (mixS ss l m 0 os)).toVs = old.toVs := by rw [hrow', hz0, splice_nil]; rfl
                  rw [hz0]
                  refine ⟨W, by simp [concs, storeCells], ?_⟩
                  have hE : ∀ b' y, (setB hx b (.own ty (.strs (mixS ss l m 0 os))))[b']? = some y → ∃ x, hx[b']? = some x ∧ x.mine = y.mine ∧ liveAt E b' x = liveAt E b' y ∧ (BlkOk E hx.length W b' x → BlkOk E hx.length W b' y) := by
                    intro b' y hy
                    rw [setB_eq] at hy
                    by_cases hi : b = b'
                    · subst hi
                      rw [List.getElem?_set_self (getElem?_lt hb)] at hy
                      injection hy with hy
                      subst hy
                      refine ⟨_, hb, rfl, rfl, fun hk => ?_⟩
                      obtain ⟨k1, k2, fz, k3, k4⟩ := hk
                      exact ⟨k1, by rw [e2]; exact k2, fz, by rw [Row.len_eq, e2, ← Row.len_eq]; exact k3, by rw [e2]; exact k4⟩
                    · rw [List.getElem?_set_ne hi] at hy
                      exact ⟨y, hy, rfl, rfl, id⟩
                  refine ⟨⟨fun b' y hy => ?_, fun b1 b2 x1 x2 h1 h2 m1 l1 l2 he => ?_⟩, ⟨Agree.refl _ _, by rw [setB_len]; exact Nat.le_refl _, fun k hk => .inl ?_, fun _ _ _ => rfl, Nat.le_refl _, rfl, rfl, rfl⟩⟩
                  · obtain ⟨x, hx1, _, _, hx2⟩ := hE b' y hy
                    rw [setB_len]
                    exact hx2 (hh.ok b' x hx1)
                  · obtain ⟨y1, p1, p2, p3, _⟩ := hE b1 x1 h1
                    obtain ⟨y2, q1, q2, q3, _⟩ := hE b2 x2 h2
                    exact hh.inj b1 b2 y1 y2 p1 q1 (by rw [p2]; exact m1) (by rw [p3]; exact l1) (by rw [q3]; exact l2) he
                  · obtain ⟨b1, x1, h1, m1, l1, e1⟩ := hk
                    obtain ⟨y1, p1, p2, p3, _⟩ := hE b1 x1 h1
                    exact ⟨b1, y1, p1, by rw [p2]; exact m1, by rw [p3]; exact l1, e1⟩
                · exact hh.store (P := P) hb (blk' := .own ty (.strs (mixS ss l m 0 os))) (.inl ⟨ty, _, rfl, rfl⟩) hz0 hfit hrow' (by
                    rw [inSs_eq, List.all_eq_true]; intro v hv; obtain ⟨z, _, rfl⟩ := List.mem_map.1 hv; rfl) (fun u hu => by obtain ⟨z, _, rfl⟩ := List.mem_map.1 hu; rfl)
              obtain ⟨W', hst, h1, h3⟩ := hst
              have hrun : (Builtin.copy_ c.argTypes o.type #[a.eval so, a.eval xo]).run P W = .ok (.int .i64 (min m os.length : Nat)) W' := by
                unfold Builtin.copy_
                rw [hs, conc]
                simp only [ht, List.getElem?_toArray, List.getElem?_cons_zero, List.getElem?_cons_succ, Sem.run_bind, run_underlying hte, Result.andThen_ok, hlen2, run_szT hsz, Sem.run_pure, goInt]
                rw [show Nat.min m os.length = min m os.length from rfl, hfirst2]
                simp only [Result.andThen_ok, hst]
              have hargs' : c.args.map a.eval = #[a.eval so, a.eval xo] := by rw [hargs]; simp
              have hrun' : (execOp a.eval o).run P W = .ok (.value (.int .i64 (min m os.length : Nat))) W' := by
                simp only [execOp, ho, resolve, hc, Sem.run_bind, Sem.run_pure, Result.andThen_ok, invoke, builtin, hargs', hrun]
              refine Oper.wpE_value hrun' ?_
              exact hnext _ _ _ (.inr ⟨rfl, rfl⟩) h1 h3
          · cases hr
        · cases hr
      · exact base hr
    · exact base hr
  · exact base hr
end
end Go.Eng

/- ENGINE, PART 7: the operations of a region, one after the other, and in whatever order the tape picks. -/
namespace Go.Eng
open Go

/-- What one operation did. -/
structure Did where
  v : V
  rd : List Nat
  eff : HEff
  run : Bool

def guardA (ops : List Oper) (o : Oper) (tmps : List V) : Option Bool :=
  match o.guard with
  | none => some true
  | some (j, want) => match ops[j]? with
    | none => some false
    | some oj => match oj.dst with
      | none => some false
      | some d => match getV tmps d with
        | .bool b => some (eqB b want)
        | .tuple [] => some false
        | _ => none

def nextS (o : Oper) (s : AS) (x : Did) : AS := ⟨putV s.tmps o.dst x.v, x.eff.app s.heap, s.marks⟩

/-- What lays memory: whatever the memory. -/
def isBorn (o : Oper) : Bool := match o.op with
  | .alloc _ => true
  | .buildSlice _ _ _ => true
  | .call c => match c.callee with
    | .value _ => true
    | _ => false
  | _ => false
def isApp (o : Oper) : Bool := match o.op with
  | .call c => match c.callee with
    | .builtin .append => true
    | _ => false
  | _ => false
structure BornOk (P : Program) (o : Oper) (ev : Operand → V) (h : List Blk) (x : Did) : Prop where
  born : isBorn o = true → x.run = true → ∀ n blk, x.eff = .push n blk → OpBorn P o ev h x.v x.rd n blk
  app : isApp o = true → x.run = true → BornM P o ev h x.v x.rd x.eff
theorem BornOk.idle {P : Program} {o : Oper} {ev : Operand → V} {h : List Blk} {x : Did} (hx : x.run = false) : BornOk P o ev h x := ⟨fun _ h => (by rw [hx] at h; cases h), fun _ h => (by rw [hx] at h; cases h)⟩
def SameK (h h' : List Blk) (x : Did) : Prop := (∀ b ∈ x.rd, h'[b]? = h[b]?) ∧ ∀ b n blk, x.eff = .kpush b n blk → h'[b]? = h[b]?
theorem BornOk.congr {P : Program} {o : Oper} {ev ev' : Operand → V} {h h' : List Blk} {x : Did} (hb : BornOk P o ev h x) (he : ∀ z ∈ o.op.operands, ev' z = ev z) (hh : SameK h h' x) : BornOk P o ev' h' x :=
  ⟨fun h1 h2 n blk hx => (hb.born h1 h2 n blk hx).congr he hh.1, fun h1 h2 n blk hbr => ⟨fun hx => ((hb.app h1 h2 n blk hbr).1 hx).congr he hh.1 (fun _ h => (by cases h)), fun b hx => ((hb.app h1 h2 n blk hbr).2 b hx).congr he hh.1 (fun b' h => (by cases h; exact hh.2 b n blk hx))⟩⟩
theorem Same.rds {h h2 : List Blk} {rd : List Nat} {eff : HEff} (hs : Same h h2 rd eff) : ∀ b ∈ rd, h2[b]? = h[b]? := by
  cases eff with
  | none => exact hs
  | wr b blk => exact hs.1
  | push n blk => exact hs.1
  | kpush b n blk => exact hs.1
  | mv b n blk => exact hs.1
  | all h' => intro b _; rw [show h2 = h from hs]
theorem Same.sb {h h2 : List Blk} {x : Did} (hs : Same h h2 x.rd x.eff) : SameK h h2 x := by
  refine ⟨hs.rds, fun b n blk he => ?_⟩
  rw [he] at hs
  exact hs.2.1
structure StepOk (P : Program) (ops : List Oper) (o : Oper) (s : AS) (x : Did) : Prop where
  guard : guardA ops o s.tmps = some x.run
  ran : x.run = true → (∀ c, o.op ≠ .defer c) ∧ OpEff P o (evalV s.tmps) s.heap x.v x.rd x.eff ∧ Same s.heap s.heap x.rd x.eff
  idle : x.run = false → x.v = undefV ∧ x.rd = [] ∧ x.eff = .none
  born : BornOk P o (evalV s.tmps) s.heap x

section
variable {P : Program}

theorem guardA_real {ops : List Oper} {o : Oper} {E : Env} {s : AS} {a : Act} {W : World} {b : Bool} (hs : StOk E s a W) (hg : guardA ops o s.tmps = some b) :
    Region.wanted o (yielded ops.toArray a.tmps) = b := by
  unfold guardA at hg
  unfold Region.wanted
  split at hg
  · rename_i h0; rw [h0]; injection hg
  · rename_i j want h0
    rw [h0]
    simp only [yielded, List.getElem?_toArray]
    split at hg
    · rename_i hj; rw [hj]; injection hg
    · rename_i oj hj
      rw [hj]
      simp only [Option.bind_some]
      split at hg
      · rename_i hd; rw [hd]; injection hg
      · rename_i d hd
        rw [hd]
        simp only [Option.bind_some]
        rw [getV_eq] at hg
        cases ht : s.tmps[d]? with
        | none =>
          rw [ht] at hg
          have : a.tmps[d]? = none := by rw [Array.getElem?_eq_none_iff, hs.size]; exact List.getElem?_eq_none_iff.1 ht
          rw [this]
          simp only [Option.getD_none, undefV] at hg
          injection hg
        | some v =>
          rw [ht] at hg
          obtain ⟨x, hx, hv⟩ := hs.slots d v ht
          rw [hx]
          simp only [Option.getD_some] at hg
          split at hg
          · rename_i c
            have := hv.bool
            subst this
            injection hg with hg
            subst hg
            simp [← eqB_eq]
          · obtain ⟨e, _⟩ := hv.val (by simp)
            subst e
            injection hg
          · cases hg

theorem StepOk.wp {r : Option Nat} {ops : List Oper} {i : Nat} {o : Oper} {s : AS} {x : Did} (hi : ops[i]? = some o) (hx : StepOk P ops o s x) {E : Env} {a : Act} {W : World} (hs : StOk E s a W) {Q : Exit → Act → World → Prop} {Kn : Act → World → Prop}
    (hk : ∀ E' a' W', StOk E' (nextS o s x) a' W' → Trans E s.heap W E' (nextS o s x).heap W' → Kn a' W') : wpOpIn (fen r) 0 P ops.toArray Q i Kn a W := by
  unfold wpOpIn
  simp only [List.getElem?_toArray, hi]
  rw [guardA_real hs hx.guard]
  cases hr : x.run with
  | true =>
    obtain ⟨hnd, h1, h2⟩ := hx.ran hr
    simp only [if_true]
    refine h1 s.heap h2 E a W hs.heap (fun y _ => hs.eval y) Kn Q (fun z E' W' hz hh ht => ?_) hnd r
    exact hk E' _ W' (hs.put ht.agree ht.len hh o.dst hz) ht
  | false =>
    obtain ⟨h1, h2, h3⟩ := hx.idle hr
    simp only [Bool.false_eq_true, if_false]
    have hn : nextS o s x = ⟨putV s.tmps o.dst undefV, s.heap, s.marks⟩ := by simp [nextS, h1, h3, HEff.app]
    refine ⟨fun _ _ => trivial, hk E _ W ?_ ?_⟩
    · rw [hn]; exact hs.put (Agree.refl _ _) (Nat.le_refl _) hs.heap o.dst VR.undef
    · rw [hn]; exact Trans.refl _ _ _

/-- A run of operations: each with its number. -/
def PathOk (P : Program) (ops : List Oper) : AS → List (Nat × Oper × Did) → AS → Prop
  | s, [], e => s = e
  | s, (i, o, x) :: L, e => ops[i]? = some o ∧ StepOk P ops o s x ∧ PathOk P ops (nextS o s x) L e

/-- In the order of the text. -/
theorem PathOk.seq {r : Option Nat} {ops : List Oper} {Q : Exit → Act → World → Prop} : ∀ {L : List (Nat × Oper × Did)} {s e : AS} {E : Env} {a : Act} {W : World}, PathOk P ops s L e → StOk E s a W →
    (∀ E' a' W', StOk E' e a' W' → Trans E s.heap W E' e.heap W' → Q .normal a' W') → wpOpsIn (fen r) 0 P ops.toArray Q (L.map (·.1)) a W
  | [], s, e, E, a, W, hp, hs, hq => by
    cases hp
    exact hq E a W hs (Trans.refl _ _ _)
  | (i, o, x) :: L, s, e, E, a, W, hp, hs, hq => by
    obtain ⟨hi, hx, hp⟩ := hp
    simp only [List.map_cons]
    rw [wpOpsIn_cons]
    refine hx.wp hi hs fun E' a' W' hs' ht => ?_
    exact PathOk.seq hp hs' fun E'' a'' W'' hs'' ht' => hq E'' a'' W'' hs'' (ht.trans ht')

/-! ### two operations change places -/
def hcomm (x y : Did) : Bool := match x.eff, y.eff with
  | .none, .none => true
  | .none, .wr b _ => !(x.rd.contains b)
  | .wr b _, .none => !(y.rd.contains b)
  | .wr b _, .wr c _ => !(Nat.beq b c) && !(y.rd.contains b) && !(x.rd.contains c)
  | .none, .push n _ => x.rd.all (Nat.blt · n)
  | .push n _, .none => y.rd.all (Nat.blt · n)
  | .wr b _, .push n _ => Nat.blt b n && x.rd.all (Nat.blt · n) && !(y.rd.contains b)
  | .push n _, .wr c _ => Nat.blt c n && y.rd.all (Nat.blt · n) && !(x.rd.contains c)
  | .kpush b n _, .none => y.rd.all (fun z => Nat.blt z n && !(Nat.beq z b))
  | .none, .kpush b n _ => x.rd.all (fun z => Nat.blt z n && !(Nat.beq z b))
  | .none, .mv b n _ => !(x.rd.contains b) && !(x.rd.contains n)
  | .mv b n _, .none => !(y.rd.contains b) && !(y.rd.contains n)
  | .wr c _, .mv b n _ => !(Nat.beq c b) && !(Nat.beq c n) && !(y.rd.contains c) && (!(x.rd.contains b) && !(x.rd.contains n))
  | .mv b n _, .wr c _ => !(Nat.beq c b) && !(Nat.beq c n) && !(x.rd.contains c) && (!(y.rd.contains b) && !(y.rd.contains n))
  | .mv b n _, .mv c m _ => !(Nat.beq b c) && !(Nat.beq b m) && (!(Nat.beq n c) && !(Nat.beq n m)) && (!(y.rd.contains b) && !(y.rd.contains n)) && (!(x.rd.contains c) && !(x.rd.contains m))
  | .all _, .none => y.rd.isEmpty
  | .none, .all _ => x.rd.isEmpty
  | _, _ => false

theorem getB_set_ne {h : List Blk} {b c : Nat} {blk : Blk} (hne : c ≠ b) : (setB h b blk)[c]? = h[c]? := by
  rw [setB_eq, List.getElem?_set_ne (Ne.symm hne)]
theorem setB_comm (h : List Blk) {b c : Nat} (x y : Blk) (hne : b ≠ c) : setB (setB h b x) c y = setB (setB h c y) b x := by
  simp only [setB_eq]; exact List.set_comm _ _ hne
theorem setB_snoc (h : List Blk) {b : Nat} (x y : Blk) (hb : b < h.length) : setB (h ++ [y]) b x = setB h b x ++ [y] := by
  simp only [setB_eq]; rw [List.set_append_left _ _ hb]

/-- The second one may come first: over the memory that was there before the first one, and the first one behind it. -/
theorem hcomm_swap {x y : Did} (hc : hcomm x y = true) {h : List Blk} (hx : Same h h x.rd x.eff) (hy : Same (x.eff.app h) (x.eff.app h) y.rd y.eff) :
    Same h h y.rd y.eff ∧ (∀ h2, Same h h2 y.rd y.eff → Same (x.eff.app h) h2 y.rd y.eff) ∧
    Same (y.eff.app h) (y.eff.app h) x.rd x.eff ∧ (∀ h2, Same (y.eff.app h) h2 x.rd x.eff → Same h h2 x.rd x.eff) ∧
    y.eff.app (x.eff.app h) = x.eff.app (y.eff.app h) := by
  obtain ⟨xv, xr, xe, xb⟩ := x
  obtain ⟨yv, yr, ye, yb⟩ := y
  have app_get : ∀ {l : List Blk} {z : Blk} {b : Nat}, b < l.length → (l ++ [z])[b]? = l[b]? := fun {l z b} hb => List.getElem?_append_left hb
  have notIn : ∀ {l : List Nat} {b : Nat}, (!l.contains b) = true → ∀ z ∈ l, z ≠ b := fun {l b} hl z hz e => by
    subst e; simp [hz] at hl
  have allLt : ∀ {l : List Nat} {n : Nat}, l.all (Nat.blt · n) = true → ∀ z ∈ l, z < n := fun {l n} hl z hz => by
    have := List.all_eq_true.1 hl z hz; simpa using this
  have ne_of : ∀ {b c : Nat}, (!(Nat.beq b c)) = true → b ≠ c := fun hb => nbeq_iff.1 hb
  cases xe <;> cases ye <;> dsimp only [hcomm, HEff.app, Same] at hc hx hy ⊢
  case none.none => exact ⟨fun _ _ => rfl, fun h2 hs => hs, fun _ _ => rfl, fun h2 hs => hs, rfl⟩
  case none.wr b blk =>
    have hne := notIn hc
    exact ⟨⟨fun _ _ => rfl, rfl⟩, fun h2 hs => hs, fun _ _ => rfl, fun h2 hs z hz => (hs z hz).trans (getB_set_ne (hne z hz)), rfl⟩
  case none.push n blk =>
    have hn : h.length = n := hy.2
    subst hn
    have hlt := allLt hc
    exact ⟨⟨fun _ _ => rfl, rfl⟩, fun h2 hs => hs, fun _ _ => rfl, fun h2 hs z hz => (hs z hz).trans (app_get (hlt z hz)), rfl⟩
  case none.all z =>
    have hx0 : xr = [] := by simpa using hc
    subst hx0
    exact ⟨rfl, fun h2 hs => hs, fun _ hz => (by cases hz), fun h2 hs _ hz => (by cases hz), rfl⟩
  case wr.none b blk =>
    have hne := notIn hc
    exact ⟨fun _ _ => rfl, fun h2 hs z hz => (hs z hz).trans (getB_set_ne (hne z hz)).symm, ⟨fun _ _ => rfl, rfl⟩, fun h2 hs => hs, rfl⟩
  case wr.wr b blk c blk' =>
    simp only [Bool.and_eq_true] at hc
    obtain ⟨⟨h1, h2⟩, h3⟩ := hc
    have hbc : b ≠ c := fun e => by subst e; simp at h1
    have hn1 := notIn h2
    have hn2 := notIn h3
    exact ⟨⟨fun _ _ => rfl, rfl⟩, fun h2 hs => ⟨fun z hz => (hs.1 z hz).trans (getB_set_ne (hn1 z hz)).symm, hs.2.trans (getB_set_ne hbc.symm).symm⟩,
      ⟨fun _ _ => rfl, rfl⟩, fun h2 hs => ⟨fun z hz => (hs.1 z hz).trans (getB_set_ne (hn2 z hz)), hs.2.trans (getB_set_ne hbc)⟩, setB_comm h blk blk' hbc⟩
  case wr.push b blk n blk' =>
    simp only [Bool.and_eq_true] at hc
    obtain ⟨⟨h1, h2⟩, h3⟩ := hc
    have hn : h.length = n := by have := hy.2; rwa [setB_len] at this
    subst hn
    have hb : b < h.length := by simpa using h1
    have hlt := allLt h2
    have hne := notIn h3
    exact ⟨⟨fun _ _ => rfl, rfl⟩, fun h2 hs => ⟨fun z hz => (hs.1 z hz).trans (getB_set_ne (hne z hz)).symm, hs.2⟩, ⟨fun _ _ => rfl, rfl⟩,
      fun h2 hs => ⟨fun z hz => (hs.1 z hz).trans (app_get (hlt z hz)), hs.2.trans (app_get hb)⟩, (setB_snoc h blk blk' hb).symm⟩
  case push.none n blk =>
    have hn : h.length = n := hx.2
    subst hn
    have hlt := allLt hc
    exact ⟨fun _ _ => rfl, fun h2 hs z hz => (hs z hz).trans (app_get (hlt z hz)).symm, ⟨fun _ _ => rfl, rfl⟩, fun h2 hs => hs, rfl⟩
  case push.wr n blk c blk' =>
    have hn : h.length = n := hx.2
    subst hn
    simp only [Bool.and_eq_true] at hc
    obtain ⟨⟨h1, h2⟩, h3⟩ := hc
    have hb : c < h.length := by simpa using h1
    have hlt := allLt h2
    have hne := notIn h3
    exact ⟨⟨fun _ _ => rfl, rfl⟩, fun h2 hs => ⟨fun z hz => (hs.1 z hz).trans (app_get (hlt z hz)).symm, hs.2.trans (app_get hb).symm⟩, ⟨fun _ _ => rfl, setB_len _ _ _⟩,
      fun h2 hs => ⟨fun z hz => (hs.1 z hz).trans (getB_set_ne (hne z hz)), hs.2⟩, setB_snoc h blk' blk hb⟩
  case none.kpush b n blk =>
    have hn : h.length = n := hy.2.2
    subst hn
    have hz : ∀ z ∈ xr, z < h.length ∧ z ≠ b := fun z hz => by
      have := List.all_eq_true.1 hc z hz
      simp only [Bool.and_eq_true, Bool.not_eq_eq_eq_not, Bool.not_true] at this
      exact ⟨by simpa using this.1, fun e => by subst e; simp at this⟩
    exact ⟨⟨fun _ _ => rfl, rfl, rfl⟩, fun h2 hs => hs, fun _ _ => rfl, fun h2 hs z hm => (hs z hm).trans ((app_get (by rw [setB_len]; exact (hz z hm).1)).trans (getB_set_ne (hz z hm).2)), rfl⟩
  case kpush.none b n blk =>
    have hn : h.length = n := hx.2.2
    subst hn
    have hz : ∀ z ∈ yr, z < h.length ∧ z ≠ b := fun z hz => by
      have := List.all_eq_true.1 hc z hz
      simp only [Bool.and_eq_true, Bool.not_eq_eq_eq_not, Bool.not_true] at this
      exact ⟨by simpa using this.1, fun e => by subst e; simp at this⟩
    exact ⟨fun _ _ => rfl, fun h2 hs z hm => (hs z hm).trans ((app_get (by rw [setB_len]; exact (hz z hm).1)).trans (getB_set_ne (hz z hm).2)).symm, ⟨fun _ _ => rfl, rfl, rfl⟩, fun h2 hs => hs, rfl⟩
  case all.none z =>
    have hy0 : yr = [] := by simpa using hc
    subst hy0
    exact ⟨fun _ hz => (by cases hz), fun h2 hs _ hz => (by cases hz), rfl, fun h2 hs => hs, rfl⟩
  case none.mv b n blk =>
    simp only [Bool.and_eq_true] at hc
    have k1 := notIn hc.1
    have k2 := notIn hc.2
    exact ⟨⟨fun _ _ => rfl, rfl, rfl⟩, fun h2 hs => hs, fun _ _ => rfl, fun h2 hs z hz => (hs z hz).trans ((getB_set_ne (k2 z hz)).trans (getB_set_ne (k1 z hz))), rfl⟩
  case mv.none b n blk =>
    simp only [Bool.and_eq_true] at hc
    have k1 := notIn hc.1
    have k2 := notIn hc.2
    exact ⟨fun _ _ => rfl, fun h2 hs z hz => (hs z hz).trans ((getB_set_ne (k2 z hz)).trans (getB_set_ne (k1 z hz))).symm, ⟨fun _ _ => rfl, rfl, rfl⟩, fun h2 hs => hs, rfl⟩
  case wr.mv c blk b n blk' =>
    simp only [Bool.and_eq_true] at hc
    obtain ⟨⟨⟨h1, h2⟩, h3⟩, h4, h5⟩ := hc
    have n1 := ne_of h1; have n2 := ne_of h2
    have k3 := notIn h3; have k4 := notIn h4; have k5 := notIn h5
    exact ⟨⟨fun _ _ => rfl, rfl, rfl⟩, fun h2 hs => ⟨fun z hz => (hs.1 z hz).trans (getB_set_ne (k3 z hz)).symm, hs.2.1.trans (getB_set_ne n1.symm).symm, hs.2.2.trans (getB_set_ne n2.symm).symm⟩,
      ⟨fun _ _ => rfl, rfl⟩, fun h2 hs => ⟨fun z hz => (hs.1 z hz).trans ((getB_set_ne (k5 z hz)).trans (getB_set_ne (k4 z hz))), hs.2.trans ((getB_set_ne n2).trans (getB_set_ne n1))⟩,
      by rw [setB_comm h blk .dead n1, setB_comm _ blk blk' n2]⟩
  case mv.wr b n blk' c blk =>
    simp only [Bool.and_eq_true] at hc
    obtain ⟨⟨⟨h1, h2⟩, h3⟩, h4, h5⟩ := hc
    have n1 := ne_of h1; have n2 := ne_of h2
    have k3 := notIn h3; have k4 := notIn h4; have k5 := notIn h5
    exact ⟨⟨fun _ _ => rfl, rfl⟩, fun h2 hs => ⟨fun z hz => (hs.1 z hz).trans ((getB_set_ne (k5 z hz)).trans (getB_set_ne (k4 z hz))).symm, hs.2.trans ((getB_set_ne n2).trans (getB_set_ne n1)).symm⟩,
      ⟨fun _ _ => rfl, rfl, rfl⟩, fun h2 hs => ⟨fun z hz => (hs.1 z hz).trans (getB_set_ne (k3 z hz)), hs.2.1.trans (getB_set_ne n1.symm), hs.2.2.trans (getB_set_ne n2.symm)⟩,
      by rw [setB_comm h blk .dead n1, setB_comm _ blk blk' n2]⟩
  case mv.mv b n blk c m blk' =>
    simp only [Bool.and_eq_true] at hc
    obtain ⟨⟨⟨⟨h1, h2⟩, h3, h4⟩, h5, h6⟩, h7, h8⟩ := hc
    have n1 := ne_of h1; have n2 := ne_of h2; have n3 := ne_of h3; have n4 := ne_of h4
    have k5 := notIn h5; have k6 := notIn h6; have k7 := notIn h7; have k8 := notIn h8
    exact ⟨⟨fun _ _ => rfl, rfl, rfl⟩, fun h2 hs => ⟨fun z hz => (hs.1 z hz).trans ((getB_set_ne (k6 z hz)).trans (getB_set_ne (k5 z hz))).symm, hs.2.1.trans ((getB_set_ne n3.symm).trans (getB_set_ne n1.symm)).symm, hs.2.2.trans ((getB_set_ne n4.symm).trans (getB_set_ne n2.symm)).symm⟩,
      ⟨fun _ _ => rfl, rfl, rfl⟩, fun h2 hs => ⟨fun z hz => (hs.1 z hz).trans ((getB_set_ne (k8 z hz)).trans (getB_set_ne (k7 z hz))), hs.2.1.trans ((getB_set_ne n2).trans (getB_set_ne n1)), hs.2.2.trans ((getB_set_ne n4).trans (getB_set_ne n3))⟩,
      by rw [setB_comm (setB h b .dead) blk .dead n3, setB_comm h .dead .dead n1, setB_comm _ blk blk' n4, setB_comm (setB h c .dead) .dead blk' n2]⟩
  all_goals exact absurd hc (by simp)

theorem OpEff.congr {o : Oper} {ev ev' : Operand → V} {h h' : List Blk} {v : V} {rd : List Nat} {eff : HEff} (hx : OpEff P o ev h v rd eff) (he : ∀ x ∈ o.op.operands, ev' x = ev x) (hh : ∀ h2, Same h' h2 rd eff → Same h h2 rd eff) :
    OpEff P o ev' h' v rd eff := fun h2 hs E a W hl hv => hx h2 (hh h2 hs) E a W hl (fun x hx => by rw [← he x hx]; exact hv x hx)

theorem evalV_put {tmps : List V} {d : Option Tmp} {v : V} {x : Operand} (h : ∀ t, d = some t → x ≠ .tmp t) : evalV (putV tmps d v) x = evalV tmps x := by
  cases d with
  | none => rfl
  | some d =>
    cases x with
    | tmp t =>
      have hne : d ≠ t := fun e => h d rfl (by rw [e])
      simp only [evalV, putV, getV_eq, setV_eq, List.getElem?_set_ne hne]
    | _ => rfl
theorem getV_put {tmps : List V} {d : Option Tmp} {v : V} {t : Nat} (h : d ≠ some t) : getV (putV tmps d v) t = getV tmps t := by
  cases d with
  | none => rfl
  | some d =>
    have hne : d ≠ t := fun e => h (by rw [e])
    simp only [putV, getV_eq, setV_eq, List.getElem?_set_ne hne]
theorem putV_comm (tmps : List V) {d e : Option Tmp} (v u : V) (h : ∀ t, d = some t → e ≠ some t) : putV (putV tmps d v) e u = putV (putV tmps e u) d v := by
  cases d with
  | none => rfl
  | some d =>
    cases e with
    | none => rfl
    | some e =>
      have hne : d ≠ e := fun he => h d rfl (by rw [he])
      simp only [putV, setV_eq]; exact List.set_comm _ _ hne
theorem guardA_put {ops : List Oper} {o : Oper} {tmps : List V} {d : Option Tmp} {v : V} (h : ∀ t, d = some t → t ∉ o.looksAt ops.toArray) : guardA ops o (putV tmps d v) = guardA ops o tmps := by
  unfold guardA
  cases hg : o.guard with
  | none => rfl
  | some g =>
    obtain ⟨j, want⟩ := g
    cases hj : ops[j]? with
    | none => simp only [hj]
    | some oj =>
      simp only [hj]
      cases hd : oj.dst with
      | none => rfl
      | some e =>
        have : getV (putV tmps d v) e = getV tmps e := getV_put fun he => h e he (by
          unfold Oper.looksAt
          rw [hg]
          simp [hj, hd])
        simp only [this]
theorem operands_looksAt {ops : Array Oper} {o : Oper} {t : Tmp} (h : .tmp t ∈ o.op.operands) : t ∈ o.looksAt ops := by
  unfold Oper.looksAt
  exact List.mem_append_left _ (List.mem_filterMap.2 ⟨.tmp t, by simpa using h, rfl⟩)

theorem step_swap {ops : List Oper} {o1 o2 : Oper} {x y : Did} {s : AS} (ha : o1.apart ops.toArray o2 = true) (hc : hcomm x y = true) (hx : StepOk P ops o1 s x) (hy : StepOk P ops o2 (nextS o1 s x) y) :
    StepOk P ops o2 s y ∧ StepOk P ops o1 (nextS o2 s y) x ∧ nextS o2 (nextS o1 s x) y = nextS o1 (nextS o2 s y) x := by
  obtain ⟨a1, a2, a3⟩ := Oper.apart_spec ha
  have sx : Same s.heap s.heap x.rd x.eff := by
    cases hr : x.run with
    | true => exact (hx.ran hr).2.2
    | false => obtain ⟨_, h2, h3⟩ := hx.idle hr; rw [h2, h3]; intro _ h; cases h
  have sy : Same (x.eff.app s.heap) (x.eff.app s.heap) y.rd y.eff := by
    cases hr : y.run with
    | true => exact (hy.ran hr).2.2
    | false => obtain ⟨_, h2, h3⟩ := hy.idle hr; rw [h2, h3]; intro _ h; cases h
  obtain ⟨q1, q2, q3, q4, q5⟩ := hcomm_swap hc sx sy
  have ey : ∀ z ∈ o2.op.operands, evalV s.tmps z = evalV (nextS o1 s x).tmps z := fun z hz => by
    simp only [nextS]
    exact (evalV_put fun t ht e => a1 t ht (by subst e; exact operands_looksAt hz)).symm
  have ex : ∀ z ∈ o1.op.operands, evalV (nextS o2 s y).tmps z = evalV s.tmps z := fun z hz => by
    simp only [nextS]
    exact evalV_put fun t ht e => a3 t ht (by subst e; exact operands_looksAt hz)
  refine ⟨⟨?_, fun hr => ⟨(hy.ran hr).1, ?_, q1⟩, hy.idle, hy.born.congr ey (q2 _ q1).sb⟩, ⟨?_, fun hr => ⟨(hx.ran hr).1, ?_, q3⟩, hx.idle, hx.born.congr ex (q4 _ q3).sb⟩, ?_⟩
  · have := hy.guard
    simp only [nextS] at this
    rwa [guardA_put a1] at this
  · exact (hy.ran hr).2.1.congr ey q2
  · simp only [nextS]
    rw [guardA_put a3]; exact hx.guard
  · exact (hx.ran hr).2.1.congr ex q4
  · simp only [nextS]
    rw [q5, putV_comm _ _ _ a2]

/-- An operation with which all that stand ahead of it may change places may come first. -/
theorem PathOk.front {ops : List Oper} {i : Nat} {o : Oper} {x : Did} {L2 : List (Nat × Oper × Did)} {e : AS} : ∀ {L1 : List (Nat × Oper × Did)} {s : AS}, PathOk P ops s (L1 ++ (i, o, x) :: L2) e →
    (∀ z ∈ L1, z.2.1.apart ops.toArray o = true ∧ hcomm z.2.2 x = true) → PathOk P ops s ((i, o, x) :: (L1 ++ L2)) e
  | [], s, hp, _ => hp
  | (j, o1, y) :: L1, s, hp, hc => by
    obtain ⟨hj, hy, hp⟩ := hp
    obtain ⟨hi, hx, hp⟩ := PathOk.front hp (fun z hz => hc z (by simp [hz]))
    obtain ⟨h1, h2⟩ := hc (j, o1, y) (by simp)
    obtain ⟨q1, q2, q3⟩ := step_swap h1 h2 hy hx
    exact ⟨hi, q1, hj, q2, by rw [← q3]; exact hp⟩

/-! ### whatever order the tape picks -/
/-- What an operation waits for, through others too: a number whose bits are the operations' numbers. -/
def maskOf (acc : List Nat) : List Edge → Nat → Nat
  | [], m => m
  | e :: r, m => maskOf acc r (bif Region.binds .any e then m ||| 2 ^ e.on ||| acc.getD e.on 0 else m)
def masks : List Oper → List Nat → List Nat
  | [], acc => acc
  | o :: r, acc => masks r (acc ++ [maskOf acc o.after.toList 0])
/-- Every operation waits for ones that stand ahead of it. -/
def backB : List Oper → Nat → Bool
  | [], _ => true
  | o :: r, k => o.after.toList.all (fun e => !Region.binds .any e || Nat.blt e.on k) && backB r (k + 1)
def pairB (ops : Array Oper) (m : List Nat) (x y : Nat × Oper × Did) : Bool := (m.getD y.1 0).testBit x.1 || (x.2.1.apart ops y.2.1 && hcomm x.2.2 y.2.2)
def freeB (ops : Array Oper) (m : List Nat) : List (Nat × Oper × Did) → Bool
  | [] => true
  | x :: r => r.all (pairB ops m x) && freeB ops m r

end
end Go.Eng

/- ENGINE, PART 8: a region that draws its order. -/
namespace Go.Eng
open Go
section
variable {P : Program}

theorem maskOf_spec {acc : List Nat} {i : Nat} : ∀ {es : List Edge} {m : Nat}, (maskOf acc es m).testBit i = true → m.testBit i = true ∨ ∃ e ∈ es, Region.binds .any e = true ∧ (e.on = i ∨ (acc.getD e.on 0).testBit i = true)
  | [], m, h => .inl h
  | e :: r, m, h => by
    simp only [maskOf] at h
    rcases maskOf_spec h with h1 | ⟨e', he, hb, h1⟩
    · cases hb : Region.binds .any e with
      | false => rw [hb] at h1; exact .inl h1
      | true =>
        rw [hb] at h1
        simp only [cond_true, Nat.testBit_or, Bool.or_eq_true, Nat.testBit_two_pow, decide_eq_true_eq] at h1
        rcases h1 with (h1 | h1) | h1
        · exact .inl h1
        · exact .inr ⟨e, by simp, hb, .inl h1⟩
        · exact .inr ⟨e, by simp, hb, .inr h1⟩
    · exact .inr ⟨e', by simp [he], hb, h1⟩

theorem masks_prefix : ∀ (l : List Oper) (acc : List Nat), ∃ t, masks l acc = acc ++ t ∧ t.length = l.length
  | [], acc => ⟨[], by simp [masks], rfl⟩
  | o :: r, acc => by
    obtain ⟨t, h1, h2⟩ := masks_prefix r (acc ++ [maskOf acc o.after.toList 0])
    exact ⟨maskOf acc o.after.toList 0 :: t, by simp [masks, h1], by simp [h2]⟩
theorem masks_spec {i : Nat} : ∀ (l : List Oper) (acc : List Nat) (k : Nat) (o : Oper), l[k]? = some o → ((masks l acc).getD (acc.length + k) 0).testBit i = true →
    ∃ e ∈ o.after, Region.binds .any e = true ∧ (e.on = i ∨ (e.on < acc.length + k ∧ ((masks l acc).getD e.on 0).testBit i = true))
  | [], _, _, _, h, _ => by simp at h
  | o :: r, acc, 0, o', h, hb => by
    simp only [List.getElem?_cons_zero, Option.some.injEq] at h
    subst h
    obtain ⟨t, h1, _⟩ := masks_prefix r (acc ++ [maskOf acc o.after.toList 0])
    have hm : masks (o :: r) acc = acc ++ (maskOf acc o.after.toList 0 :: t) := by simp [masks, h1]
    rw [hm] at hb ⊢
    rw [Nat.add_zero, List.getD_eq_getElem?_getD, List.getElem?_append_right (Nat.le_refl _)] at hb
    simp only [Nat.sub_self, List.getElem?_cons_zero, Option.getD_some] at hb
    rcases maskOf_spec hb with h0 | ⟨e, he, hbd, h0⟩
    · simp at h0
    · refine ⟨e, by simpa using he, hbd, ?_⟩
      rcases h0 with h0 | h0
      · exact .inl h0
      · rcases Nat.lt_or_ge e.on acc.length with hlt | hge
        · refine .inr ⟨by omega, ?_⟩
          rw [List.getD_eq_getElem?_getD, List.getElem?_append_left hlt, ← List.getD_eq_getElem?_getD]
          exact h0
        · rw [List.getD_eq_getElem?_getD, List.getElem?_eq_none hge] at h0
          simp at h0
  | o :: r, acc, k + 1, o', h, hb => by
    simp only [List.getElem?_cons_succ] at h
    have := masks_spec (i := i) r (acc ++ [maskOf acc o.after.toList 0]) k o' h (by
      simp only [masks] at hb
      rw [List.length_append]
      simpa [Nat.add_assoc, Nat.add_comm 1 k] using hb)
    simp only [masks]
    rw [List.length_append] at this
    simpa [Nat.add_assoc, Nat.add_comm 1 k] using this

def dirs (listed : Array Bool) (o : Oper) : Prop := ∀ e ∈ o.after, Region.binds .any e = true → listed.getD e.on false = true
def closedL (ops : List Oper) (listed : Array Bool) : Prop := ∀ k o, ops[k]? = some o → listed.getD k false = true → dirs listed o

theorem masks_closed {ops : List Oper} {listed : Array Bool} (hc : closedL ops listed) {i : Nat} : ∀ (k : Nat) (o : Oper), ops[k]? = some o → dirs listed o → ((masks ops []).getD k 0).testBit i = true → listed.getD i false = true := by
  intro k
  induction k using Nat.strongRecOn with
  | _ k ih =>
    intro o ho hd hb
    obtain ⟨e, he, hbd, h⟩ := masks_spec ops [] k o ho (by simpa using hb)
    rcases h with h | ⟨hlt, h⟩
    · rw [← h]; exact hd e he hbd
    · simp at hlt
      have hl := hd e he hbd
      obtain ⟨o', ho'⟩ : ∃ o', ops[e.on]? = some o' := by
        cases h' : ops[e.on]? with
        | some o' => exact ⟨o', rfl⟩
        | none =>
          have h1 := List.getElem?_eq_none_iff.1 h'
          have h2 := getElem?_lt ho
          omega
      exact ih e.on hlt o' ho' (hc e.on o' ho' hl) h

theorem backB_spec : ∀ {l : List Oper} {k : Nat}, backB l k = true → ∀ j o, l[j]? = some o → ∀ e ∈ o.after, Region.binds .any e = true → e.on < k + j
  | [], _, _, _, _, h, _, _, _ => by simp at h
  | o :: r, k, hb, 0, o', h, e, he, hbd => by
    simp only [List.getElem?_cons_zero, Option.some.injEq] at h
    subst h
    simp only [backB, Bool.and_eq_true, List.all_eq_true] at hb
    have := hb.1 e (by simpa using he)
    rw [hbd] at this
    simpa using this
  | o :: r, k, hb, j + 1, o', h, e, he, hbd => by
    simp only [List.getElem?_cons_succ] at h
    simp only [backB, Bool.and_eq_true] at hb
    have := backB_spec hb.2 j o' h e he hbd
    omega

/-- The numbers go up. -/
def ascB : List (Nat × Oper × Did) → Prop
  | [] => True
  | x :: r => (∀ y ∈ r, x.1 < y.1) ∧ ascB r

theorem ascB_remove : ∀ {L1 : List (Nat × Oper × Did)} {x : Nat × Oper × Did} {L2 : List (Nat × Oper × Did)}, ascB (L1 ++ x :: L2) → ascB (L1 ++ L2) ∧ (∀ z ∈ L1, z.1 < x.1) ∧ (∀ z ∈ L2, x.1 < z.1)
  | [], x, L2, h => ⟨h.2, fun z hz => (by cases hz), h.1⟩
  | y :: L1, x, L2, h => by
    obtain ⟨h1, h2, h3⟩ := ascB_remove h.2
    refine ⟨⟨fun z hz => h.1 z ?_, h1⟩, fun z hz => ?_, h3⟩
    · rcases List.mem_append.1 hz with hz | hz
      · simp [hz]
      · simp [hz]
    · rcases List.mem_cons.1 hz with rfl | hz
      · exact h.1 x (by simp)
      · exact h2 z hz
theorem freeB_remove {ops : Array Oper} {m : List Nat} : ∀ {L1 : List (Nat × Oper × Did)} {x : Nat × Oper × Did} {L2 : List (Nat × Oper × Did)}, freeB ops m (L1 ++ x :: L2) = true → freeB ops m (L1 ++ L2) = true ∧ (∀ z ∈ L1, pairB ops m z x = true)
  | [], x, L2, h => by
    simp only [List.nil_append, freeB, Bool.and_eq_true] at h
    exact ⟨h.2, fun z hz => by cases hz⟩
  | y :: L1, x, L2, h => by
    simp only [List.cons_append, freeB, Bool.and_eq_true, List.all_eq_true] at h
    obtain ⟨h1, h2⟩ := freeB_remove h.2
    refine ⟨?_, fun z hz => ?_⟩
    · simp only [List.cons_append, freeB, Bool.and_eq_true, List.all_eq_true]
      refine ⟨fun z hz => h.1 z ?_, h1⟩
      rcases List.mem_append.1 hz with hz | hz
      · simp [hz]
      · simp [hz]
    · rcases List.mem_cons.1 hz with rfl | hz
      · exact h.1 x (by simp)
      · exact h2 z hz

theorem wpAny_of_path {r : Option Nat} {ops : List Oper} {Q : Exit → Act → World → Prop} (hback : backB ops 0 = true) : ∀ (fuel : Nat) (L : List (Nat × Oper × Did)) (listed : Array Bool) (s e : AS) (E : Env) (a : Act) (W : World),
    L.length = fuel → listed.size = ops.length → (∀ i, i < ops.length → (listed.getD i false = true ↔ i ∉ L.map (·.1))) → (∀ x ∈ L, ops[x.1]? = some x.2.1) → closedL ops listed → ascB L →
    freeB ops.toArray (masks ops []) L = true → PathOk P ops s L e → StOk E s a W → (∀ E' a' W', StOk E' e a' W' → Trans E s.heap W E' e.heap W' → Q .normal a' W') →
    wpAnyIn (fen r) 0 P .any ops.toArray Q fuel listed a W := by
  intro fuel
  induction fuel with
  | zero =>
    intro L listed s e E a W hlen hsz hli hop hcl hasc hfree hp hs hq
    have : L = [] := List.eq_nil_of_length_eq_zero hlen
    subst this
    cases hp
    refine ⟨?_, hq E a W hs (Trans.refl _ _ _)⟩
    apply List.eq_nil_iff_forall_not_mem.2
    intro i hi
    obtain ⟨h1, o, ho, _⟩ := mem_ready.1 hi
    have hlt : i < ops.length := by
      have := (Array.getElem?_eq_some_iff.1 ho).1; simpa using this
    have := (hli i hlt).2 (by simp)
    have hs' : i < listed.size := by omega
    simp [hs'] at h1 this
    rw [h1] at this; cases this
  | succ fuel ih =>
    intro L listed s e E a W hlen hsz hli hop hcl hasc hfree hp hs hq
    have both : ∀ {i : Nat}, i < ops.length → listed.getD i true = listed.getD i false := fun {i} hi => by
      have : i < listed.size := by omega
      simp [this]
    refine ⟨fun hr => ?_, fun i hi => ?_⟩
    · -- something is ready: the first one
      exfalso
      match L, hlen with
      | (i, o, x) :: r, _ =>
        have hio := hop (i, o, x) (by simp)
        have hlt : i < ops.length := getElem?_lt hio
        have : i ∈ Region.ready .any ops.toArray listed := by
          refine mem_ready.2 ⟨?_, o, by simpa using hio, fun ed he hb => ?_⟩
          · rw [both hlt]
            cases hx : listed.getD i false with
            | false => rfl
            | true => exact absurd ((hli i hlt).1 hx) (by simp)
          · have hon := backB_spec hback i o hio ed he hb
            refine (hli ed.on (by omega)).2 fun hm => ?_
            simp only [List.map_cons, List.mem_cons] at hm
            rcases hm with hm | hm
            · omega
            · obtain ⟨y, hy, hye⟩ := List.mem_map.1 hm
              have := hasc.1 y hy
              omega
        rw [hr] at this; cases this
    · obtain ⟨h1, o, ho, hd⟩ := mem_ready.1 hi
      have hio : ops[i]? = some o := by simpa using ho
      have hlt : i < ops.length := getElem?_lt hio
      rw [both hlt] at h1
      have hmem : i ∈ L.map (·.1) := by
        apply Classical.byContradiction
        intro hn
        have := (hli i hlt).2 hn
        rw [h1] at this; cases this
      obtain ⟨y, hy, hyi⟩ := List.mem_map.1 hmem
      obtain ⟨L1, L2, rfl⟩ := List.append_of_mem hy
      obtain ⟨i', o', x⟩ := y
      simp only at hyi
      subst hyi
      have ho' : o' = o := by
        have := hop (i', o', x) (by simp)
        simp only at this
        rw [hio] at this
        injection this with this
        exact this.symm
      subst ho'
      obtain ⟨hasc', hl1, hl2⟩ := ascB_remove hasc
      obtain ⟨hfree', hpair⟩ := freeB_remove hfree
      have hcomm_ : ∀ z ∈ L1, z.2.1.apart ops.toArray o' = true ∧ hcomm z.2.2 x = true := fun z hz => by
        have := hpair z hz
        simp only [pairB, Bool.or_eq_true, Bool.and_eq_true] at this
        rcases this with h | h
        · exfalso
          have hlz : listed.getD z.1 false = true := masks_closed hcl i' o' hio hd h
          have hzlt : z.1 < ops.length := getElem?_lt (hop z (by simp [hz]))
          exact (hli z.1 hzlt).1 hlz (by
            simp only [List.map_append, List.mem_append]
            exact .inl (List.mem_map.2 ⟨z, hz, rfl⟩))
        · exact h
      obtain ⟨_, hx, hp'⟩ := PathOk.front hp hcomm_
      refine hx.wp hio hs fun E' a' W' hs' ht => ?_
      have getset : ∀ j, (listed.setIfInBounds i' true).getD j false = if j = i' then true else listed.getD j false := fun j => by
        have hlt' : i' < listed.size := by omega
        by_cases hj : j = i'
        · subst hj; simp [hlt']
        · rw [if_neg hj, Array.getD_eq_getD_getElem?, Array.getElem?_setIfInBounds_ne (Ne.symm hj), ← Array.getD_eq_getD_getElem?]
      refine ih (L1 ++ L2) (listed.setIfInBounds i' true) _ e E' a' W' (by simp at hlen ⊢; omega) (by simp [hsz]) (fun j hj => ?_) (fun y hy => hop y ?_) (fun k ok hk hlk ed he hb => ?_) hasc' hfree' hp' hs' (fun E'' a'' W'' hs'' ht' => hq E'' a'' W'' hs'' (ht.trans ht'))
      · rw [getset]
        by_cases hji : j = i'
        · subst hji
          rw [if_pos rfl]
          refine ⟨fun _ hm => ?_, fun _ => rfl⟩
          simp only [List.map_append, List.mem_append, List.mem_map] at hm
          rcases hm with ⟨y, hy, hyj⟩ | ⟨y, hy, hyj⟩
          · have := hl1 y hy; simp only at this; omega
          · have := hl2 y hy; simp only at this; omega
        · rw [if_neg hji, hli j hj]
          simp only [List.map_append, List.map_cons, List.mem_append, List.mem_cons, not_or]
          exact ⟨fun h => ⟨h.1, h.2.2⟩, fun h => ⟨h.1, hji, h.2⟩⟩
      · rcases List.mem_append.1 hy with hy | hy
        · simp [hy]
        · simp [hy]
      · rw [getset]
        split
        · rfl
        · rw [getset] at hlk
          split at hlk
          · rename_i hki
            subst hki
            rw [hio] at hk
            injection hk with hk
            subst hk
            exact hd ed he hb
          · exact hcl k ok hk hlk ed he hb

end
end Go.Eng

/- ENGINE, PART 8b: a region that draws its order and lays several variables. -/
namespace Go.Eng
open Go

/-- No block of ours, and no slot, names it. -/
structure NoM (n : Nat) (s : AS) : Prop where
  tmps : ∀ v ∈ s.tmps, noV n v = true
  heap : ∀ blk ∈ s.heap, noBlk n blk = true
  marks : ∀ b ∈ s.marks, b ≠ n

theorem marksOf_one {E : Env} {n k dl ln cp : Nat} {nl : Bool} {ba : Option Addr} : ∀ {l : List Nat}, (∀ b ∈ l, b ≠ n) → marksOf (E.one n k dl ln cp nl ba) l = marksOf E l
  | [], _ => rfl
  | b :: r, hl => by
    simp only [marksOf]
    rw [show (E.one n k dl ln cp nl ba).blk b = E.blk b from if_neg (hl b (by simp)), marksOf_one (fun x hx => hl x (by simp [hx]))]

/-- A block is laid under a number that nothing names; another one may be given up. -/
theorem StOk.birthM {E E2 : Env} {s : AS} {a : Act} {W W' : World} (hs : StOk E s a W) {n n0 : Nat} (hn : NoM n s) (h0 : n0 ≤ n) (d : Option Tmp) {k dl ln cp : Nat} {nl : Bool} {ba : Option Addr} {h' : List Blk} {v : V} {x : Value} (hE : Agree s.heap.length E E2) (hl : h'.length = s.heap.length)
    (hH : Holds (E2.one n k dl ln cp nl ba) h' W') (hv : VR (E2.one n k dl ln cp nl ba) s.heap.length v x) (ht : TransN n E s.heap W (E2.one n k dl ln cp nl ba) h' W') :
    StOk (E2.one n k dl ln cp nl ba) ⟨putV s.tmps d v, h', s.marks⟩ (a.put d x) W' ∧ TransN n0 E s.heap W (E2.one n k dl ln cp nl ba) h' W' := by
  refine ⟨?_, ⟨ht.agree.mono h0, Nat.le_trans h0 ht.len, ht.mine, ht.frame, ht.size, ht.os, ht.tape, ht.output⟩⟩
  have hsl : ∀ (i : Nat) (v : V), s.tmps[i]? = some v → ∃ x, a.tmps[i]? = some x ∧ VR (E2.one n k dl ln cp nl ba) s.heap.length v x := fun i v hi => by
    obtain ⟨x, hx, hv⟩ := hs.slots i v hi
    exact ⟨x, hx, (hv.mono hE (Nat.le_refl _)).one (hn.tmps v (List.mem_of_getElem? hi))⟩
  have hmk : ∀ {l : List Nat}, (∀ b ∈ l, b < s.heap.length) → marksOf E2 l = marksOf E l := by
    intro l
    induction l with
    | nil => intro _; rfl
    | cons b r ih => intro hb; simp only [marksOf]; rw [hE.blk b (hb b (by simp)), ih (fun x hx => hb x (by simp [hx]))]
  have hdef : a.defers = marksOf (E2.one n k dl ln cp nl ba) s.marks := by rw [marksOf_one hn.marks, hmk hs.scope]; exact hs.defers
  have h1 : StOk (E2.one n k dl ln cp nl ba) ⟨s.tmps, h', s.marks⟩ a W' :=
    ⟨hs.size, fun i v hi => by
      obtain ⟨x, hx, hv⟩ := hsl i v hi
      exact ⟨x, hx, by simp only [hl]; exact hv⟩, hdef, fun b hb => by simp only [hl]; exact hs.scope b hb, hH⟩
  exact h1.put (Agree.refl _ _) (Nat.le_refl _) hH d (by rw [hl]; exact hv)
end Go.Eng
