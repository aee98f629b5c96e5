/- THE ENGINE, piece 5: an interpreter of the model over abstract values, proved sound. -/
import Derived.Test.YtnbfnoomhlamnaaGreatEng4
/- ENGINE, PART 17e: functions that write over all of a slice of ours; functions that look behind the end of a slice that they are handed. -/
namespace Go.Eng
open Go

/-- Functions that answer nothing and write over a slice, by its elements' size. -/
abbrev OTab := FuncId → Option Nat
def OTabOk (P : Program) (T : OTab) : Prop := ∀ f sz, T f = some sz → Enterable P f ∧ 0 < sz ∧ (∀ ba, FnOK P f [.flat (.slice ba 0 0)] [] (.tuple []) []) ∧ ∀ ty n len, len ≤ n → len ≤ 70368744177664 → FnOK P f [.view 0 0 sz len] [.raw ty sz n] (.tuple []) [.raw ty sz n]
def overOrc (T : OTab) : Oracle := fun _ t args H K => match t with
  | .fn f => match T f with
    | some sz => match args with
      | [x] => match x with
        | .gs b => match getB H b with
          | .grow _ _ sz' row => match Nat.beq sz' sz with
            | true => cond (decide (row.len ≤ 70368744177664)) (K (.tuple []) [] (.all (setB H b .dead))) none
            | false => none
          | _ => none
        | x => match isNilV x with
          | true => K (.tuple []) [] (.all H)
          | false => none
      | _ => none
    | none => none
  | .yield _ => none
theorem empty_holds (E : Env) (W : World) : Holds E ([] : List Blk) W := ⟨fun b blk hb => by simp at hb, fun b b' blk blk' hb => by simp at hb⟩
theorem below_empty {E E' : Env} {W W' : World} (t : Trans E ([] : List Blk) W E' [] W') : RowKit.Below W.heap.size W W' := Trans.below_ro (fun b blk hb => by simp at hb) t
theorem overOrc_ok {P : Program} {T : OTab} (hT : OTabOk P T) : OracleOk P (overOrc T) := by
  intro R t args h K r hr
  unfold overOrc at hr
  split at hr
  · rename_i f
    split at hr
    · rename_i sz hf
      obtain ⟨hent, hz0, hnilF, hrawF⟩ := hT f sz hf
      split at hr
      · split at hr
        · rename_i b
          split at hr
          · rename_i nn ty sz' row hb
            split at hr
            · rename_i hsz
              have hsz := Nat.eq_of_beq_eq_true hsz
              subst hsz
              have hcb : row.len ≤ 70368744177664 := by
                by_cases h : row.len ≤ 70368744177664
                · exact h
                · rw [decide_eq_false h] at hr; cases hr
              rw [decide_eq_true hcb, cond_true] at hr
              have hb := getB_some hb (by simp)
              refine ⟨_, _, _, hr, rfl, hent, fun h2 hs => ?_, fun _ _ he => (by cases he)⟩
              rw [show h2 = h from hs]
              intro E W hh hin
              obtain ⟨hd, hs0, hz, hl, hcap, hnil, hc⟩ := hh.ok b _ hb
              have hkill := hh.kill b
              have hlenk : (setB h b .dead).length = h.length := setB_len _ _ _
              cases hn : E.isnil b with
              | true =>
                have hcall := hnilF (E.base b) E W (empty_holds E W) rfl
                have hargs : concs E [.flat (.slice (E.base b) 0 0)] = concs E [.gs b] := by simp [concs, conc, hn]
                rw [hargs] at hcall
                refine hcall.mono ?_
                rintro e W' ⟨x, E2, rfl, hx, _, ht⟩
                have hB := below_empty ht
                obtain ⟨k1, k2⟩ := hh.below hB
                have hkill := k1.kill b
                exact ⟨x, E, rfl, .inr ⟨rfl, (hx.val (by simp)).1⟩, hkill.1, k2.trans hkill.2⟩
              | false =>
                obtain ⟨fz, spare, hfz, hsp, hcc⟩ := hc hn
                have hlive : liveAt E b (.grow nn ty sz' row) = true := by simp [liveAt, hn]
                have hfar := kill_live hh hb rfl hlive
                have hE0 : Holds (E.one 0 (E.blk b) (E.delta b) (E.len b) (E.cap b) false none) [.raw ty sz' (E.cap b)] W := by
                  refine ⟨fun i blk hi => ?_, fun i j x y hi hj _ _ _ _ => ?_⟩
                  · cases i with
                    | zero =>
                      simp only [List.getElem?_cons_zero, Option.some.injEq] at hi
                      subst hi
                      refine ⟨by simp [Env.one, hd], hz, by simp [Env.one], by simp [Env.one], fz, concs E row.toVs ++ spare, ?_, ?_, by simp only [Env.one, if_true]; exact hcc⟩
                      · rw [List.length_append, concs_eq, List.length_map, ← Row.len_eq]; exact hsp
                      · rw [← hsp]; exact hfz
                    | succ i => simp at hi
                  · cases i with
                    | zero => cases j with
                      | zero => rfl
                      | succ j => simp at hj
                    | succ i => simp at hi
                have hcall := hrawF ty (E.cap b) (E.len b) hcap (Nat.le_trans (Nat.le_mul_of_pos_right _ hz) (by omega)) _ W hE0 (by simp [inSs, inS])
                have hargs : concs (E.one 0 (E.blk b) (E.delta b) (E.len b) (E.cap b) false none) [.view 0 0 sz' (E.len b)] = concs E [.gs b] := by
                  simp [concs, conc, Env.one, hn]
                rw [hargs] at hcall
                refine hcall.mono ?_
                rintro e W' ⟨x, E2, rfl, hx, _, ht⟩
                have hsame : ∀ k, k < W.heap.size → k ≠ E.blk b → W'.heap[k]? = W.heap[k]? := fun k hk hne => ht.frame k hk (by
                  rintro ⟨i, y, hi, _, _, he⟩
                  cases i with
                  | zero => simp only [Env.one, if_true] at he; exact hne he.symm
                  | succ i => simp at hi)
                refine ⟨x, E, rfl, .inr ⟨rfl, (hx.val (by simp)).1⟩, ⟨fun b' y hy => ?_, hkill.1.inj⟩, ⟨Agree.refl _ _, hkill.2.len, hkill.2.mine, fun k hk hm => ?_, ht.size, ht.os, ht.tape, ht.output⟩⟩
                · have hlt := getElem?_lt hy
                  cases hlv : liveAt E b' y with
                  | true =>
                    refine (hkill.1.ok b' y hy).frame hlt (Agree.refl _ _) (Nat.le_refl _) (fun o ho => ?_)
                    rw [hsame _ (Array.getElem?_eq_some_iff.1 ho).1 (hfar b' y hy hlv)]; exact ho
                  | false => exact (hkill.1.ok b' y hy).absent hlt (Agree.refl _ _) (Nat.le_refl _) hlv
                · exact hsame k hk (fun he => hm ⟨b, _, hb, rfl, hlive, he.symm⟩)
            · cases hr
          · cases hr
        · rename_i x _
          split at hr
          · rename_i hx
            have hx := isNilV_ok hx
            subst hx
            refine ⟨_, _, _, hr, rfl, hent, fun h2 hs => ?_, fun _ _ he => (by cases he)⟩
            rw [show h2 = h from hs]
            intro E W hh hin
            have hcall := hnilF none E W (empty_holds E W) rfl
            refine hcall.mono ?_
            rintro e W' ⟨x, E2, rfl, hx, _, ht⟩
            have hB := below_empty ht
            obtain ⟨k1, k2⟩ := hh.below hB
            exact ⟨x, E, rfl, .inr ⟨rfl, (hx.val (by simp)).1⟩, k1, k2⟩
          · cases hr
      · cases hr
    · cases hr
  · cases hr

/-- The first argument is a part of a slice: the function's own heap holds the whole slice, behind a mark. -/
def wholeOrc (nr : FuncId → Option Row) (T : HTab) : Oracle := fun _ t args H K => match t with
  | .fn f => match args with
    | [.view b l sz len, y] => match sliceRow (getB H b) with
      | some (sz', row) => match Nat.beq sz' sz && rowPlain (tidyR row) with
        | true => locN (nr f) y H 2 (fun y' nb => match T f [.view 1 l sz len, y'] ([.ro (.vs []), .rs (nnB (getB H b)) sz (tidyR row)] ++ nb) with
          | some (c, v, []) => cond c (match plainV v with | true => K v [] (.all H) | false => none) none
          | _ => none)
        | false => none
      | none => none
    | _ => none
  | .yield _ => none
theorem wholeOrc_ok {P : Program} {nr : FuncId → Option Row} {T : HTab} (hT : HTabOk P T) : OracleOk P (wholeOrc nr T) := by
  intro R t args H K r hr
  unfold wholeOrc at hr
  split at hr
  · rename_i f
    split at hr
    · rename_i b l sz len y
      split at hr
      · rename_i sz' row hsr
        split at hr
        · rename_i hc0
          simp only [Bool.and_eq_true] at hc0
          obtain ⟨hsz, hpl⟩ := hc0
          have hsz := Nat.eq_of_beq_eq_true hsz
          subst hsz
          obtain ⟨y', nb, hk, HY⟩ := locN_ok hr
          split at hk
          · rename_i c v hq
            cases c with
            | false => cases hk
            | true =>
              rw [cond_true] at hk
              split at hk
              · rename_i hpv
                obtain ⟨hent, hfn⟩ := hT f _ _ true v [] hq rfl
                rw [List.append_nil] at hfn
                refine ⟨_, _, _, hk, rfl, hent, fun h2 hs => ?_, fun _ _ he => (by cases he)⟩
                rw [show h2 = H from hs]
                intro E W hh hin
                simp only [inSs, Bool.and_eq_true] at hin
                have hne : getB H b ≠ .dead := fun e => by rw [e] at hsr; simp [sliceRow] at hsr
                have hb := getB_some rfl hne
                obtain ⟨hrow, hz, hl, hcap, hnil, _⟩ := sliceRow_ok hsr (hh.ok b _ hb)
                have htl : (tidyR row).len = row.len := by rw [Row.len_eq, tidyR_ok, ← Row.len_eq]
                obtain ⟨a1, a2⟩ := (empty_holds E W).lendG (fun b blk hb => by simp at hb) (blk := 0) (delta := 0) (len := 0) (cap := 0) (nil := false) (ba := none) (x := .ro (.vs [])) rfl ⟨rfl, fun i v hv => by simp [Row.toVs] at hv⟩
                obtain ⟨b1, b2⟩ := a1.lend a2 (blk := E.blk b) (delta := E.delta b) (len := E.len b) (cap := E.cap b) (nil := E.isnil b) (ba := E.base b) (nn := nnB (getB H b)) (sz := sz') (row := tidyR row) (by
                  refine ⟨(rowPlain_ok hpl E E _).1, hz, by simp [Env.one, htl, hl], by simp [Env.one, hcap], fun hn => ?_, fun hn j v hj => ?_⟩
                  · simp only [Env.one, List.nil_append, List.length_singleton, if_true] at hn
                    refine ⟨by rw [htl]; exact hnil hn, ?_⟩
                    cases hq : nnB (getB H b) with
                    | false => rfl
                    | true => have := (nnB_ok hq (hh.ok b _ hb)).1; rw [hn] at this; cases this
                  · simp only [Env.one, List.nil_append, List.length_singleton, if_true]
                    rw [(rowPlain_ok hpl _ E 0).2 j v hj]
                    rw [tidyR_ok] at hj
                    exact (hh.cell hb (by rw [hrow]; exact hj)).1)
                obtain ⟨E1, g0, g1, g2, g3, g4⟩ := HY E W hh hin.2.1 _ _ b1 rfl b2
                have hcall := hfn E1 W g1 (by
                  simp only [inSs, Bool.and_eq_true]
                  exact ⟨by simp [inS], g3, trivial⟩)
                have hag := conc_agree g0 (.view 1 l sz' len) (by simp [inS])
                have hargs : concs E1 [.view 1 l sz' len, y'] = concs E [.view b l sz' len, y] := by
                  simp only [concs, g2]
                  rw [hag]
                  simp [conc, Env.one]
                rw [hargs] at hcall
                refine hcall.mono ?_
                rintro e W' ⟨x, E2, rfl, hx, _, ht⟩
                obtain ⟨k1, k2⟩ := hh.below (keeps_of g4 ht).below
                refine ⟨x, E, rfl, ?_, k1, k2⟩
                rcases hx with rfl | ⟨_, hx2⟩
                · exact .inl rfl
                · obtain ⟨p1, p2⟩ := plainV_conc (E := E2) (E' := E) (n := H.length) v hpv
                  exact .inr ⟨p2, by rw [hx2]; exact p1⟩
              · cases hk
          · cases hk
        · cases hr
      · cases hr
    · cases hr
  · cases hr
end Go.Eng

/- ENGINE, PART 17g: functions that are handed a list of two slices of ours, and write over both. -/
namespace Go.Eng
open Go

def flatH (ty : TypeId) (k : IntKind) (l0 l1 : List Int) : List Blk := [.grow false ty 1 (.ints k l0), .grow false ty 1 (.ints k l1), .rs true 1 (.vs [.gs 0, .gs 1]), .ro (.vs []), .ro (.vs [])]
def FlatOk (P : Program) (f : FuncId) (ty : TypeId) (k : IntKind) (C : List Int → List Int → Bool) : Prop := Enterable P f ∧ ∀ l0 l1, C l0 l1 = true → ∃ h', FnOK P f [.gs 2] (flatH ty k l0 l1) (.bool true) h'
/-- The numbers of a row. -/
def intsOf (k : IntKind) (row : Row) : Option (List Int) := match tidyR row with
  | .ints k' l => match decide (k' = k) with | true => some l | false => none
  | .vs [] => some []
  | _ => none
theorem intsOf_ok {k : IntKind} {row : Row} {l : List Int} (h : intsOf k row = some l) : row.toVs = l.map (.int k) := by
  unfold intsOf at h
  split at h
  · rename_i k' l' ht
    split at h
    · rename_i hk
      simp only [decide_eq_true_eq] at hk
      cases h
      subst hk
      rw [← tidyR_ok, ht]; rfl
    · cases h
  · rename_i ht
    cases h
    rw [← tidyR_ok, ht]; rfl
  · cases h
theorem intsOf_len {k : IntKind} {row : Row} {l : List Int} (h : intsOf k row = some l) : row.len = l.length := by
  rw [Row.len_eq, intsOf_ok h, List.length_map]
theorem concs_ints (E E' : Env) (k : IntKind) (l : List Int) : concs E (l.map (.int k)) = concs E' (l.map (.int k)) := by
  induction l with
  | nil => rfl
  | cons x r ih => simp only [List.map_cons, concs, ih]; rfl
theorem inSs_ints (n : Nat) (k : IntKind) (l : List Int) : inSs n (l.map (.int k)) = true := by
  induction l with
  | nil => rfl
  | cons x r ih => simp only [List.map_cons, inSs, ih]; rfl
def flatE (B len0 cap0 : Nat) (nil0 : Bool) (ba0 : Option Addr) (B1 len1 cap1 : Nat) (B2 d2 len2 cap2 : Nat) : Env :=
  ⟨fun i => match i with | 0 => B | 1 => B1 | 2 => B2 | _ => 0, fun i => match i with | 2 => d2 | _ => 0, fun i => match i with | 0 => len0 | 1 => len1 | 2 => len2 | _ => 0,
   fun i => match i with | 0 => cap0 | 1 => cap1 | 2 => cap2 | _ => 0, fun i => match i with | 0 => nil0 | _ => false, fun i => match i with | 0 => ba0 | _ => none⟩

theorem flat_core {P : Program} {f : FuncId} {ty : TypeId} {k : IntKind} {C : List Int → List Int → Bool} (hF : FlatOk P f ty k C) {E : Env} {H H' : List Blk} {W : World} (hh : Holds E H W)
    {c b1 len : Nat} {row1 : Row} {l0 l1 : List Int} {x0 : V} {B len0 cap0 : Nat} {nil0 : Bool} {ba0 : Option Addr}
    (hc : sliceRow (getB H c) = some (1, .vs [x0, .view b1 0 1 len])) (hb1 : H[b1]? = some (.grow true ty 1 row1)) (hi1 : intsOf k row1 = some l1) (hlen : len ≤ l1.length) (hC : C l0 (l1.take len) = true) (hcb : c ≠ b1)
    (p1 : conc E x0 = bif nil0 then .slice ba0 0 0 else .slice (some ⟨B, 0, none⟩) len0 cap0) (p2 : len0 = l0.length) (p3 : len0 ≤ cap0) (p4 : nil0 = true → l0 = [])
    (p5 : nil0 = false → ∃ fz spare, thawed fz (l0.length + spare.length) ∧ l0.length + spare.length = cap0 ∧ W.heap[B]? = some (.cells (concs E (l0.map (.int k)) ++ spare).toArray ty fz))
    (p6 : nil0 = false → Mine E H B ∧ B ≠ E.blk b1 ∧ B ≠ E.blk c)
    (q1 : Holds E H' W) (q2 : Trans E H W E H' W) (q3 : ∀ b' y, H'[b']? = some y → liveAt E b' y = true → E.blk b' ≠ E.blk b1 ∧ (nil0 = false → E.blk b' ≠ B)) :
    Calls P f (concs E [.gs c]).toArray W (EndsIn E W H (.bool true) H') := by
  obtain ⟨hd1, _, _, hl1, hcap1, hnil1, hcell1⟩ := hh.ok b1 _ hb1
  have hn1 : E.isnil b1 = false := by
    cases hx : E.isnil b1 with
    | false => rfl
    | true => have := (hnil1 hx).2; cases this
  obtain ⟨fz1, sp1, m1, m2, m3⟩ := hcell1 hn1
  have v1 := intsOf_ok hi1
  have r1 := intsOf_len hi1
  have hne : getB H c ≠ .dead := fun e => by rw [e] at hc; simp [sliceRow] at hc
  have hcb2 := getB_some rfl hne
  obtain ⟨hrow, _, hlc, hcapc, hnilc, _⟩ := sliceRow_ok hc (hh.ok c _ hcb2)
  have hl2 : (Row.vs [x0, .view b1 0 1 len]).len = 2 := rfl
  rw [hl2] at hlc hnilc
  have hnc : E.isnil c = false := by
    cases hx : E.isnil c with
    | false => rfl
    | true => have := hnilc hx; omega
  have c0 := (hh.cell hcb2 (i := 0) (v := x0) (by rw [hrow]; rfl)).1
  have c1 := (hh.cell hcb2 (i := 1) (v := .view b1 0 1 len) (by rw [hrow]; rfl)).1
  have hlivec : liveAt E c (getB H c) = true := by
    cases hx : getB H c <;> rw [hx] at hc <;> simp [sliceRow] at hc
    · obtain ⟨rfl, rfl⟩ := hc; simp [liveAt, hnc, Row.toVs]
    · obtain ⟨rfl, rfl⟩ := hc; simp [liveAt, hnc]
  have hlive1 : liveAt E b1 (.grow true ty 1 row1) = true := by simp [liveAt, hn1]
  have dc1 : E.blk b1 ≠ E.blk c := fun he => hcb (hh.inj b1 c _ _ hb1 hcb2 rfl hlive1 hlivec he).symm
  have hlt : (l1.take len).length = len := by rw [List.length_take]; omega
  have k0 : conc (flatE B len0 cap0 nil0 ba0 (E.blk b1) len (E.cap b1) (E.blk c) (E.delta c) 2 (E.cap c)) (.gs 0) = conc E x0 := by rw [p1]; rfl
  have k1 : conc (flatE B len0 cap0 nil0 ba0 (E.blk b1) len (E.cap b1) (E.blk c) (E.delta c) 2 (E.cap c)) (.gs 1) = conc E (.view b1 0 1 len) := by
    simp only [conc, flatE, hn1, hd1, cond_false, Nat.zero_mul, Nat.add_zero, Nat.sub_zero, ite_self]
  have k2 : concs (flatE B len0 cap0 nil0 ba0 (E.blk b1) len (E.cap b1) (E.blk c) (E.delta c) 2 (E.cap c)) [.gs 2] = concs E [.gs c] := by
    simp only [concs, conc, flatE, hnc, cond_false]
    rw [show E.len c = 2 by omega]
  generalize hE0 : flatE B len0 cap0 nil0 ba0 (E.blk b1) len (E.cap b1) (E.blk c) (E.delta c) 2 (E.cap c) = E0 at k0 k1 k2
  have e0 : E0.blk 0 = B ∧ E0.blk 1 = E.blk b1 ∧ E0.blk 2 = E.blk c ∧ E0.isnil 0 = nil0 ∧ E0.isnil 1 = false ∧ E0.isnil 2 = false ∧ E0.cap 0 = cap0 ∧ E0.cap 1 = E.cap b1 ∧ E0.cap 2 = E.cap c ∧ E0.len 0 = len0 ∧ E0.len 1 = len ∧ E0.len 2 = 2 ∧ E0.delta 0 = 0 ∧ E0.delta 1 = 0 ∧ E0.delta 2 = E.delta c := by
    subst hE0; exact ⟨rfl, rfl, rfl, rfl, rfl, rfl, rfl, rfl, rfl, rfl, rfl, rfl, rfl, rfl, rfl⟩
  obtain ⟨g1, g2, g3, g4, g5, g6, g7, g8, g9, g10, g11, g12, g13, g14, g15⟩ := e0
  obtain ⟨hent, hall⟩ := hF
  obtain ⟨h', hfn⟩ := hall l0 (l1.take len) hC
  have get : ∀ {i : Nat} {x : Blk}, (flatH ty k l0 (l1.take len))[i]? = some x → (i = 0 ∧ x = .grow false ty 1 (.ints k l0)) ∨ (i = 1 ∧ x = .grow false ty 1 (.ints k (l1.take len))) ∨ (i = 2 ∧ x = .rs true 1 (.vs [.gs 0, .gs 1])) ∨ (x = .ro (.vs []) ∨ x = .ro (.vs [])) := fun {i x} hx => by
    unfold flatH at hx
    match i, hx with
    | 0, hx => cases hx; exact .inl ⟨rfl, rfl⟩
    | 1, hx => cases hx; exact .inr (.inl ⟨rfl, rfl⟩)
    | 2, hx => cases hx; exact .inr (.inr (.inl ⟨rfl, rfl⟩))
    | 3, hx => cases hx; exact .inr (.inr (.inr (.inl rfl)))
    | 4, hx => cases hx; exact .inr (.inr (.inr (.inr rfl)))
    | _ + 5, hx => simp at hx
  have hlen5 : (flatH ty k l0 (l1.take len)).length = 5 := rfl
  have hH0 : Holds E0 (flatH ty k l0 (l1.take len)) W := by
    refine ⟨fun i x hx => ?_, fun i j x y hx hy hm hlx hly he => ?_⟩
    · rw [hlen5]
      rcases get hx with ⟨rfl, rfl⟩ | ⟨rfl, rfl⟩ | ⟨rfl, rfl⟩ | rfl | rfl
      · refine ⟨g13, inSs_ints _ _ _, by omega, by rw [g10, p2]; simp [Row.len], by rw [g10, g7]; exact p3, fun hn => ?_, fun hn => ?_⟩
        · rw [g4] at hn
          exact ⟨by rw [p4 hn]; rfl, rfl⟩
        · rw [g4] at hn
          obtain ⟨fz, sp, a1, a2, a3⟩ := p5 hn
          exact ⟨fz, sp, a1, by rw [g7]; simpa [Row.len] using a2, by rw [g1]; simp only [Row.toVs]; rw [concs_ints E0 E]; exact a3⟩
      · refine ⟨g14, inSs_ints _ _ _, by omega, by rw [g11]; simp [Row.len, hlt], by rw [g11, g8]; omega, fun hn => ?_, fun _ => ?_⟩
        · rw [g5] at hn; cases hn
        · have hsum : (l1.take len).length + ((l1.drop len).map (V.int k)).length = row1.len := by rw [List.length_map, r1, ← List.length_append, List.take_append_drop]
          refine ⟨fz1, concs E ((l1.drop len).map (.int k)) ++ sp1, ?_, ?_, ?_⟩
          · rw [List.length_append, concs_eq, List.length_map, ← Nat.add_assoc]
            show thawed fz1 ((l1.take len).length + _ + _)
            rw [hsum]; exact m1
          · rw [List.length_append, concs_eq, List.length_map, ← Nat.add_assoc, g8]
            show (l1.take len).length + _ + _ = _
            rw [hsum]; exact m2
          · rw [g2, m3, v1]
            simp only [Row.toVs]
            rw [concs_ints E0 E, ← List.append_assoc, ← concs_append, ← List.map_append, List.take_append_drop]
      · refine ⟨rfl, by omega, by rw [g12]; rfl, by rw [g12, g9]; omega, fun hn => ?_, fun _ i v hv => ?_⟩
        · rw [g6] at hn; cases hn
        · rw [g3, g15]
          match i, hv with
          | 0, hv => cases hv; rw [k0]; exact c0
          | 1, hv => cases hv; rw [k1]; exact c1
          | _ + 2, hv => simp [Row.toVs] at hv
      · exact ⟨rfl, fun i v hv => by simp [Row.toVs] at hv⟩
      · exact ⟨rfl, fun i v hv => by simp [Row.toVs] at hv⟩
    · have cl : ∀ {i : Nat} {x : Blk}, (flatH ty k l0 (l1.take len))[i]? = some x → liveAt E0 i x = true → (i = 0 ∧ nil0 = false ∧ x.mine = true) ∨ (i = 1 ∧ x.mine = true) ∨ (i = 2 ∧ x.mine = false) := fun {i x} hx hl => by
        rcases get hx with ⟨rfl, rfl⟩ | ⟨rfl, rfl⟩ | ⟨rfl, rfl⟩ | rfl | rfl
        · refine .inl ⟨rfl, ?_, rfl⟩
          simpa [liveAt, g4] using hl
        · exact .inr (.inl ⟨rfl, rfl⟩)
        · exact .inr (.inr ⟨rfl, rfl⟩)
        · simp [liveAt, Row.toVs] at hl
        · simp [liveAt, Row.toVs] at hl
      rcases cl hx hlx with ⟨rfl, a1, a2⟩ | ⟨rfl, a2⟩ | ⟨rfl, a2⟩
      · rcases cl hy hly with ⟨rfl, b1', b2⟩ | ⟨rfl, b2⟩ | ⟨rfl, b2⟩
        · rfl
        · rw [g1, g2] at he; exact absurd he (p6 a1).2.1
        · rw [g1, g3] at he; exact absurd he (p6 a1).2.2
      · rcases cl hy hly with ⟨rfl, b1', b2⟩ | ⟨rfl, b2⟩ | ⟨rfl, b2⟩
        · rw [g1, g2] at he; exact absurd he.symm (p6 b1').2.1
        · rfl
        · rw [g2, g3] at he; exact absurd he dc1
      · rw [hm] at a2; cases a2
  have hcall := hfn E0 W hH0 rfl
  rw [k2] at hcall
  refine hcall.mono ?_
  rintro e W' ⟨x, E2, rfl, hx, _, ht⟩
  have hsame : ∀ j, j < W.heap.size → j ≠ E.blk b1 → (nil0 = false → j ≠ B) → W'.heap[j]? = W.heap[j]? := fun j hj hne1 hne0 => ht.frame j hj (by
    rintro ⟨i, y, hi, hm, hl, he⟩
    rcases get hi with ⟨rfl, rfl⟩ | ⟨rfl, rfl⟩ | ⟨rfl, rfl⟩ | rfl | rfl
    · rw [g1] at he
      exact hne0 (by simpa [liveAt, g4] using hl) he.symm
    · rw [g2] at he; exact hne1 he.symm
    · cases hm
    · cases hm
    · cases hm)
  refine ⟨x, E, rfl, .inr ⟨rfl, (hx.val (by simp)).1⟩, ⟨fun b' y hy => ?_, q1.inj⟩, ⟨Agree.refl _ _, q2.len, q2.mine, fun j hj hm => ?_, ht.size, ht.os, ht.tape, ht.output⟩⟩
  · have hlt' := getElem?_lt hy
    cases hlv : liveAt E b' y with
    | true =>
      obtain ⟨d1, d2⟩ := q3 b' y hy hlv
      refine (q1.ok b' y hy).frame hlt' (Agree.refl _ _) (Nat.le_refl _) (fun o ho => ?_)
      rw [hsame _ (Array.getElem?_eq_some_iff.1 ho).1 d1 d2]; exact ho
    | false => exact (q1.ok b' y hy).absent hlt' (Agree.refl _ _) (Nat.le_refl _) hlv
  · exact hsame j hj (fun he => hm ⟨b1, _, hb1, rfl, hlive1, he.symm⟩) (fun hn he => hm (he ▸ (p6 hn).1))
def flatOrc (f0 : FuncId) (ty : TypeId) (k : IntKind) (C : List Int → List Int → Bool) : Oracle := fun _ t args H K => match t with
  | .fn f => match Nat.beq f f0, args with
    | true, [.gs c] => match sliceRow (getB H c) with
      | some (sz, .vs [x0, .view b1 l sz1 len]) => match getB H b1 with
        | .grow true ty1 sz2 row1 => match (Nat.beq sz 1 && (Nat.beq l 0 && Nat.beq sz1 1)) && ((Nat.beq ty1 ty && Nat.beq sz2 1) && !(Nat.beq c b1)), intsOf k row1 with
          | true, some l1 => match x0 with
            | .gs b0 => match getB H b0 with
              | .grow _ ty0 sz0 row0 => match (Nat.beq ty0 ty && Nat.beq sz0 1) && (!(Nat.beq b0 b1) && !(Nat.beq c b0)), intsOf k row0 with
                | true, some l0 => cond (decide (len ≤ l1.length) && C l0 (l1.take len)) (K (.bool true) [] (.all (setB (setB H b0 .dead) b1 .dead))) none
                | _, _ => none
              | _ => none
            | x0 => match isNilV x0 with
              | true => cond (decide (len ≤ l1.length) && C [] (l1.take len)) (K (.bool true) [] (.all (setB H b1 .dead))) none
              | false => none
          | _, _ => none
        | _ => none
      | _ => none
    | _, _ => none
  | .yield _ => none
theorem flatOrc_ok {P : Program} {f0 : FuncId} {ty : TypeId} {k : IntKind} {C : List Int → List Int → Bool} (hF : FlatOk P f0 ty k C) : OracleOk P (flatOrc f0 ty k C) := by
  intro R t args H K r hr
  unfold flatOrc at hr
  split at hr
  · rename_i f
    split at hr
    · rename_i c hf
      have hf := Nat.eq_of_beq_eq_true hf
      subst hf
      split at hr
      · rename_i sz x0 b1 l sz1 len hsr
        split at hr
        · rename_i ty1 sz2 row1 hg1
          split at hr
          · rename_i l1 hck hi1
            simp only [Bool.and_eq_true, nbeq_iff] at hck
            obtain ⟨⟨s1, s2, s3⟩, ⟨s4, s5⟩, s6⟩ := hck
            have s1 := Nat.eq_of_beq_eq_true s1
            have s2 := Nat.eq_of_beq_eq_true s2
            have s3 := Nat.eq_of_beq_eq_true s3
            have s4 := Nat.eq_of_beq_eq_true s4
            have s5 := Nat.eq_of_beq_eq_true s5
            subst s1; subst s2; subst s3; subst s4; subst s5
            have hb1 := getB_some hg1 (by simp)
            split at hr
            · rename_i b0
              split at hr
              · rename_i nn0 ty0 sz0 row0 hg0
                split at hr
                · rename_i l0 hck2 hi0
                  simp only [Bool.and_eq_true, nbeq_iff] at hck2
                  obtain ⟨⟨s4, s5⟩, s7, s8⟩ := hck2
                  have s4 := Nat.eq_of_beq_eq_true s4
                  have s5 := Nat.eq_of_beq_eq_true s5
                  subst s4; subst s5
                  have hb0 := getB_some hg0 (by simp)
                  cases hcd : (decide (len ≤ l1.length) && C l0 (l1.take len)) with
                  | false => rw [hcd] at hr; cases hr
                  | true =>
                    rw [hcd, cond_true] at hr
                    simp only [Bool.and_eq_true, decide_eq_true_eq] at hcd
                    refine ⟨_, _, _, hr, rfl, hF.1, fun h2 hs => ?_, fun _ _ he => (by cases he)⟩
                    rw [show h2 = H from hs]
                    intro E W hh hin
                    obtain ⟨hd0, _, _, hl0, hcap0, hnil0, hcell0⟩ := hh.ok b0 _ hb0
                    have v0 := intsOf_ok hi0
                    have r0 := intsOf_len hi0
                    obtain ⟨u1, u2⟩ := hh.kill b0
                    obtain ⟨w1, w2⟩ := u1.kill b1
                    have hb1' : (setB H b0 .dead)[b1]? = some (.grow true ty0 1 row1) := by rw [setB_eq, List.getElem?_set_ne s7]; exact hb1
                    have hne : getB H c ≠ .dead := fun e => by rw [e] at hsr; simp [sliceRow] at hsr
                    have hcb2 := getB_some rfl hne
                    have hn1 : E.isnil b1 = false := by
                      obtain ⟨_, _, _, _, _, hnil1, _⟩ := hh.ok b1 _ hb1
                      cases hx : E.isnil b1 with
                      | false => rfl
                      | true => have := (hnil1 hx).2; cases this
                    have hlive1 : liveAt E b1 (.grow true ty0 1 row1) = true := by simp [liveAt, hn1]
                    have hlivec : liveAt E c (getB H c) = true := by
                      obtain ⟨hrow, _, hlc, hcapc, hnilc, _⟩ := sliceRow_ok hsr (hh.ok c _ hcb2)
                      have hnc : E.isnil c = false := by
                        cases hx : E.isnil c with
                        | false => rfl
                        | true => have := hnilc hx; simp [Row.len] at this
                      cases hx : getB H c <;> rw [hx] at hsr <;> simp [sliceRow] at hsr
                      · obtain ⟨rfl, rfl⟩ := hsr; simp [liveAt, hnc, Row.toVs]
                      · obtain ⟨rfl, rfl⟩ := hsr; simp [liveAt, hnc]
                    refine flat_core hF hh hsr hb1 hi1 hcd.1 hcd.2 s6 (B := E.blk b0) (len0 := E.len b0) (cap0 := E.cap b0) (nil0 := E.isnil b0) (ba0 := E.base b0) (l0 := l0) ?_ ?_ hcap0 ?_ ?_ ?_ w1 (u2.trans w2) ?_
                    · simp only [conc]
                      cases hx : E.isnil b0 with
                      | false => simp only [cond_false, hd0]
                      | true => rfl
                    · rw [← r0, ← hl0]; simp
                    · intro hn
                      obtain ⟨a1, a2⟩ := hnil0 hn
                      rw [r0] at a1
                      exact List.eq_nil_of_length_eq_zero a1
                    · intro hn
                      obtain ⟨fz, sp, a1, a2, a3⟩ := hcell0 hn
                      rw [r0] at a1 a2
                      exact ⟨fz, sp, a1, by rw [a2]; simp, by rw [v0] at a3; exact a3⟩
                    · intro hn
                      have hlive0 : liveAt E b0 (.grow nn0 ty0 1 row0) = true := by simp [liveAt, hn]
                      exact ⟨⟨b0, _, hb0, rfl, hlive0, rfl⟩, fun he => s7 (hh.inj b0 b1 _ _ hb0 hb1 rfl hlive0 hlive1 he), fun he => s8 (hh.inj b0 c _ _ hb0 hcb2 rfl hlive0 hlivec he).symm⟩
                    · intro b' y hy hl
                      refine ⟨kill_live u1 hb1' rfl hlive1 b' y hy hl, fun hn he => ?_⟩
                      have hlive0 : liveAt E b0 (.grow nn0 ty0 1 row0) = true := by simp [liveAt, hn]
                      simp only [HEff.app] at hy
                      rw [setB_eq] at hy
                      by_cases hbb : b' = b1
                      · subst hbb
                        rw [List.getElem?_set_self (getElem?_lt hb1')] at hy
                        injection hy with hy
                        subst hy
                        simp [liveAt] at hl
                      · rw [List.getElem?_set_ne (Ne.symm hbb)] at hy
                        exact kill_live hh hb0 rfl hlive0 b' y hy hl he
                · cases hr
              · cases hr
            · rename_i x0' _
              split at hr
              · rename_i hx
                have hx := isNilV_ok hx
                cases hcd : (decide (len ≤ l1.length) && C [] (l1.take len)) with
                | false => rw [hcd] at hr; cases hr
                | true =>
                  rw [hcd, cond_true] at hr
                  simp only [Bool.and_eq_true, decide_eq_true_eq] at hcd
                  subst hx
                  refine ⟨_, _, _, hr, rfl, hF.1, fun h2 hs => ?_, fun _ _ he => (by cases he)⟩
                  rw [show h2 = H from hs]
                  intro E W hh hin
                  obtain ⟨w1, w2⟩ := hh.kill b1
                  have hn1 : E.isnil b1 = false := by
                    obtain ⟨_, _, _, _, _, hnil1, _⟩ := hh.ok b1 _ hb1
                    cases hx : E.isnil b1 with
                    | false => rfl
                    | true => have := (hnil1 hx).2; cases this
                  have hlive1 : liveAt E b1 (.grow true ty1 1 row1) = true := by simp [liveAt, hn1]
                  refine flat_core hF hh hsr hb1 hi1 hcd.1 hcd.2 s6 (B := 0) (len0 := 0) (cap0 := 0) (nil0 := true) (ba0 := none) (l0 := []) rfl rfl (Nat.le_refl _) (fun _ => rfl) (fun h => by cases h) (fun h => by cases h) w1 w2 ?_
                  intro b' y hy hl
                  exact ⟨kill_live hh hb1 rfl hlive1 b' y hy hl, fun h => by cases h⟩
              · cases hr
          · cases hr
        · cases hr
      · cases hr
    · cases hr
  · cases hr
end Go.Eng

/- ENGINE, PART 14b: rounds that end in families that depend on the way out. -/
namespace Go.Eng
open Go

/-- Rows of slices of ours, tidied. -/
def tidyB : Blk → Blk
  | .grow nn ty sz row => .grow nn ty sz (tidyR row)
  | b => b
def tidyBs : List Blk → List Blk
  | [] => []
  | b :: r => tidyB b :: tidyBs r
theorem tidyBs_eq : ∀ l : List Blk, tidyBs l = l.map tidyB
  | [] => rfl
  | b :: r => by simp only [tidyBs, List.map_cons, tidyBs_eq r]
def AS.tidy (s : AS) : AS := ⟨s.tmps, tidyBs s.heap, s.marks⟩
theorem tidyR_len (row : Row) : (tidyR row).len = row.len := by rw [Row.len_eq, tidyR_ok, ← Row.len_eq]
theorem tidy_blk {E : Env} {n : Nat} {W : World} {b : Nat} {blk : Blk} (h : BlkOk E n W b blk) : BlkOk E n W b (tidyB blk) := by
  cases blk
  case grow nn ty sz row =>
    simp only [tidyB]
    obtain ⟨h1, h2, h3, h4, h5, h6, h7⟩ := h
    exact ⟨h1, by rw [tidyR_ok]; exact h2, h3, by rw [tidyR_len]; exact h4, h5, fun hn => by rw [tidyR_len]; exact h6 hn, fun hn => by
      obtain ⟨fz, spare, q1, q2, q3⟩ := h7 hn
      exact ⟨fz, spare, by rw [tidyR_len]; exact q1, by rw [tidyR_len]; exact q2, by rw [tidyR_ok]; exact q3⟩⟩
  all_goals exact h
theorem tidy_mine (b : Blk) : (tidyB b).mine = b.mine := by cases b <;> rfl
theorem tidy_live (E : Env) (n : Nat) (b : Blk) : liveAt E n (tidyB b) = liveAt E n b := by cases b <;> rfl
theorem tidy_get {h : List Blk} {b : Nat} {x : Blk} (hx : (tidyBs h)[b]? = some x) : ∃ y, h[b]? = some y ∧ x = tidyB y := by
  rw [tidyBs_eq, List.getElem?_map, Option.map_eq_some_iff] at hx
  obtain ⟨y, h1, h2⟩ := hx
  exact ⟨y, h1, h2.symm⟩
theorem tidyBs_len (h : List Blk) : (tidyBs h).length = h.length := by rw [tidyBs_eq, List.length_map]
theorem tidy_holds {E : Env} {h : List Blk} {W : World} (hh : Holds E h W) : Holds E (tidyBs h) W := by
  refine ⟨fun b blk hb => ?_, fun b b' x x' hb hb' hm hl hl' he => ?_⟩
  · obtain ⟨y, h1, rfl⟩ := tidy_get hb
    rw [tidyBs_len]
    exact tidy_blk (hh.ok b y h1)
  · obtain ⟨y, h1, rfl⟩ := tidy_get hb
    obtain ⟨y', h1', rfl⟩ := tidy_get hb'
    rw [tidy_mine] at hm
    rw [tidy_live] at hl hl'
    exact hh.inj b b' y y' h1 h1' hm hl hl' he
theorem SimC.tidy_post {P : Program} {n0 : Nat} {rd : Option Nat} {c : Code} {s s' : AS} {e : XE} (h : SimC P n0 rd c s e s') : SimC P n0 rd c s e s'.tidy := by
  intro ro E0 a0 W0 hst0 hro hn0
  refine wpIn_mono (h ro E0 a0 W0 hst0 hro hn0) ?_
  rintro e' a W ⟨rfl, E, hst, h2⟩
  refine ⟨rfl, E, ⟨hst.size, fun i v hi => ?_, hst.defers, fun x hx => ?_, tidy_holds hst.heap⟩, ⟨h2.agree, ?_, fun k hk => h2.mine k ?_, h2.frame, h2.size, h2.os, h2.tape, h2.output⟩⟩
  · obtain ⟨x, hx, hv⟩ := hst.slots i v hi
    exact ⟨x, hx, by simp only [AS.tidy, tidyBs_len]; exact hv⟩
  · simp only [AS.tidy, tidyBs_len]; exact hst.scope x hx
  · simp only [AS.tidy, tidyBs_len]; exact h2.len
  · obtain ⟨b, x, hb, q1, q2, q3⟩ := hk
    obtain ⟨y, hy, rfl⟩ := tidy_get hb
    rw [tidy_mine] at q1
    rw [tidy_live] at q2
    exact ⟨b, y, hy, q1, q2, q3⟩
/-- One round: on to T2, or out to T' e; rows tidied. -/
def roundX (P : Program) (C : Oracle) (L : Loops) (N : Nat) (n0 : Nat) (rd : Option Nat) (me : FuncId) (c : Code) (T T2 : Tm) (T' : XE → Tm) (ps : List PV) : Option (XE × List PV × List (Code × Code)) := evalCode P C L N n0 rd me c (T.at ps) (fun e s => match e with
  | .normal => match T2.find n0 (s.tidy.ghost T2) with
    | some a => some (e, a)
    | none => none
  | e => match (T' e).find n0 (s.tidy.ghost (T' e)) with
    | some a => some (e, a)
    | none => none)
theorem roundX_sim {P : Program} {C : Oracle} {L : Loops} {N n0 : Nat} {rd : Option Nat} {me : FuncId} {c : Code} {T T2 : Tm} {T' : XE → Tm} {ps qs : List PV} {e : XE} {l : List (Code × Code)} (hC : OracleOk P C) (hm : P.follows .mixedOrders = true) (hl : loopsOk P L) (hk : T2.ok = true) (hk' : ∀ e, (T' e).ok = true)
    (h : roundX P C L N n0 rd me c T T2 T' ps = some (e, qs, l)) (hc : codesOk l) : (e = .normal → SimC P n0 rd c (T.at ps) e (T2.at qs)) ∧ (e ≠ .normal → SimC P n0 rd c (T.at ps) e ((T' e).at qs)) := by
  obtain ⟨e1, s1, h1, h2⟩ := evalCode_ok hC hm hl h
  have main : ∀ {U : Tm}, U.ok = true → U.find n0 (s1.tidy.ghost U) = some (qs, l) → SimC P n0 rd c (T.at ps) e1 (U.at qs) := fun {U} hU hma => by
    obtain ⟨ρ, hs⟩ := U.find_ok hma hc hU
    exact h2.tidy_post.ghost_post.post hs
  cases e1 with
  | normal =>
    simp only at h1
    split at h1
    · rename_i a ha
      cases h1
      exact ⟨fun _ => main hk ha, fun h => absurd rfl h⟩
    · cases h1
  | _ =>
    simp only at h1
    split at h1
    · rename_i a ha
      cases h1
      exact ⟨fun he => (by cases he), fun _ => main (hk' _) ha⟩
    · cases h1
theorem loop_of_roundsX_n {P : Program} {C : Oracle} {L : Loops} {N n0 : Nat} {rd : Option Nat} {me : FuncId} {c : Code} {T : Tm} {T' : XE → Tm} (hC : OracleOk P C) (hm : P.follows .mixedOrders = true) (hl : loopsOk P L) (hk : T.ok = true) (hk' : ∀ e, (T' e).ok = true)
    {X : Type} (enc : X → List PV) (inv : X → Prop) (μ : X → Nat) (fin : X → XE × List PV)
    (round : ∀ x, inv x → ∃ e qs l, roundX P C L N n0 rd me c T T T' (enc x) = some (e, qs, l) ∧ codesOk l ∧
      ((e = .normal ∧ ∃ y, qs = enc y ∧ inv y ∧ μ y < μ x ∧ fin y = fin x) ∨ (e ≠ .normal ∧ (e, qs) = fin x))) :
    ∀ x, inv x → ∃ n, SimL P n0 rd c n (T.at (enc x)) (fin x).1 ((T' (fin x).1).at (fin x).2) := by
  have key : ∀ m x, μ x = m → inv x → ∃ n, SimL P n0 rd c n (T.at (enc x)) (fin x).1 ((T' (fin x).1).at (fin x).2) := by
    intro m
    induction m using Nat.strongRecOn with
    | _ m ih =>
      intro x hm' hx
      obtain ⟨e, qs, l, h1, h2, h3⟩ := round x hx
      obtain ⟨q1, q2⟩ := roundX_sim hC hm hl hk hk' h1 h2
      rcases h3 with ⟨rfl, y, rfl, hy, hlt, hf⟩ | ⟨hne, hf⟩
      · obtain ⟨n, hn⟩ := ih (μ y) (hm' ▸ hlt) y rfl hy
        rw [hf] at hn
        exact ⟨n + 1, (q1 rfl).step hn⟩
      · rw [← hf]
        exact ⟨1, (q2 hne).leave hne⟩
  exact fun x hx => key _ x rfl hx
theorem loop_peelX {P : Program} {C : Oracle} {L : Loops} {N n0 : Nat} {rd : Option Nat} {me : FuncId} {c : Code} {T T2 : Tm} {T' : XE → Tm} {ps qs : List PV} {l : List (Code × Code)} {e : XE} {s' : AS} {n : Nat} (hC : OracleOk P C) (hm : P.follows .mixedOrders = true) (hl : loopsOk P L) (hk : T2.ok = true) (hk' : ∀ e, (T' e).ok = true)
    (h : roundX P C L N n0 rd me c T T2 T' ps = some (.normal, qs, l)) (hc : codesOk l) (h2 : SimL P n0 rd c n (T2.at qs) e s') : SimC P n0 rd (.loop c) (T.at ps) e s' :=
  (((roundX_sim hC hm hl hk hk' h hc).1 rfl).step h2).loop
theorem loop_leaveX {P : Program} {C : Oracle} {L : Loops} {N n0 : Nat} {rd : Option Nat} {me : FuncId} {c : Code} {T T2 : Tm} {T' : XE → Tm} {ps qs : List PV} {l : List (Code × Code)} {e : XE} (hC : OracleOk P C) (hm : P.follows .mixedOrders = true) (hl : loopsOk P L) (hk : T2.ok = true) (hk' : ∀ e, (T' e).ok = true)
    (h : roundX P C L N n0 rd me c T T2 T' ps = some (e, qs, l)) (hc : codesOk l) (he : e ≠ .normal) : SimC P n0 rd (.loop c) (T.at ps) e ((T' e).at qs) :=
  (((roundX_sim hC hm hl hk hk' h hc).2 he).leave he).loop
end Go.Eng

/- ENGINE, PART 17e: of what a call has laid only the slice in its answer (a slice and a number) is looked at. -/
namespace Go.Eng
open Go
theorem FnOK.lastAtW {P : Program} {f : FuncId} {args : List V} {h h' : List Blk} {j : Nat} {nn n2 : Bool} (hnn : n2 = true → nn = true) {ty : TypeId} {sz : Nat} {row : Row} {k : IntKind} {z : Int} (hk : FnOK P f args h (.tuple [.gs j, .int k z]) h') (hb : h'[j]? = some (.grow nn ty sz row)) (hr : rowPlain row = true)
    (hm : ∀ (b : Nat) blk, h[b]? = some blk → blk.mine = false) : FnOK P f args h (.tuple [.gs h.length, .int k z]) (h ++ [.grow n2 ty sz row]) := by
  intro E W hh hin
  refine (hk E W hh hin).mono ?_
  rintro e W' ⟨x, E2, rfl, hx, hh2, ht⟩
  obtain ⟨hd, _, hz, hl, hcap, hnil, hc⟩ := hh2.ok j _ hb
  obtain ⟨k1, k2⟩ := hh.below (keeps_of hm ht).below
  have hE := Agree.one E h.length (E2.blk j) (E2.delta j) (E2.len j) (E2.cap j) (E2.isnil j) (E2.base j)
  have hfresh : E2.isnil j = false → W.heap.size ≤ E2.blk j := fun hn => by
    have hlive : liveAt E2 j (.grow nn ty sz row) = true := by simp [liveAt, hn]
    rcases ht.mine (E2.blk j) ⟨_, _, hb, rfl, hlive, rfl⟩ with ⟨b, blk, hb1, hm1, _⟩ | hge
    · rw [hm b blk hb1] at hm1; cases hm1
    · exact hge
  refine ⟨x, _, rfl, .inr ⟨by simp [inS, inSs], ?_⟩, Holds.snoc (k1.keep hE fun _ _ => rfl) ⟨by simp [Env.one, hd], (rowPlain_ok hr E E _).1, hz, by simp [Env.one, hl], by simp [Env.one, hcap], fun hn => ⟨(hnil (by simpa [Env.one] using hn)).1, by
    have h0 := (hnil (by simpa [Env.one] using hn)).2
    cases hx2 : n2 with
    | false => rfl
    | true => rw [hnn hx2] at h0; cases h0⟩, fun hn => ?_⟩ (fun b y hb1 hl1 hl2' _ he => ?_), ?_⟩
  · rw [(hx.val (by simp)).1]
    simp [conc, concs, Env.one, hd]
  · obtain ⟨fz, spare, hfz, hsp, hcc⟩ := hc (by simpa [Env.one] using hn)
    refine ⟨fz, spare, hfz, by simp only [Env.one, if_true]; exact hsp, ?_⟩
    simp only [Env.one, if_true]
    rw [hcc]
    congr 4
    have hpl := (rowPlain_ok hr E2 (E.one h.length (E2.blk j) (E2.delta j) (E2.len j) (E2.cap j) (E2.isnil j) (E2.base j)) 0).2
    rw [concs_eq, concs_eq]
    apply List.ext_getElem?
    intro j
    rw [List.getElem?_map, List.getElem?_map]
    cases hj : row.toVs[j]? with
    | none => rfl
    | some u =>
      simp only [Option.map_some]
      exact congrArg some (hpl j u hj)
  · have h5 := hfresh (by simpa [liveAt, Env.one] using hl2')
    have h6 := (hh.ok b y hb1).lt (by rw [← liveAt_agree hE (getElem?_lt hb1)]; exact hl1)
    rw [hE.blk _ (getElem?_lt hb1)] at he
    simp only [Env.one, if_true] at he
    omega
  · refine ⟨hE, by simp, fun z hz => ?_, k2.frame, k2.size, k2.os, k2.tape, k2.output⟩
    obtain ⟨b', y, hb1, hm1, hl1, he1⟩ := hz
    rcases getElem?_snoc hb1 with hb1 | ⟨q3, q4⟩
    · have hlt := getElem?_lt hb1
      rw [liveAt_agree hE hlt] at hl1
      rw [hE.blk _ hlt] at he1
      exact .inl ⟨b', y, hb1, hm1, hl1, he1⟩
    · subst q3; subst q4
      simp only [Env.one, if_true] at he1
      have := hfresh (by simpa [liveAt, Env.one] using hl1)
      exact .inr (by omega)
theorem FnOK.lastAtL {P : Program} {f : FuncId} {args : List V} {h h' : List Blk} {j : Nat} {nn n2 : Bool} (hnn : n2 = true → nn = true) {ty : TypeId} {sz : Nat} {row : Row} {pre post : List V} (hpre : plainVs pre = true) (hpost : plainVs post = true) (hk : FnOK P f args h (.tuple (pre ++ .gs j :: post)) h') (hb : h'[j]? = some (.grow nn ty sz row)) (hr : rowPlain row = true)
    (hm : ∀ (b : Nat) blk, h[b]? = some blk → blk.mine = false) : FnOK P f args h (.tuple (pre ++ .gs h.length :: post)) (h ++ [.grow n2 ty sz row]) := by
  intro E W hh hin
  refine (hk E W hh hin).mono ?_
  rintro e W' ⟨x, E2, rfl, hx, hh2, ht⟩
  obtain ⟨hd, _, hz, hl, hcap, hnil, hc⟩ := hh2.ok j _ hb
  obtain ⟨k1, k2⟩ := hh.below (keeps_of hm ht).below
  have hE := Agree.one E h.length (E2.blk j) (E2.delta j) (E2.len j) (E2.cap j) (E2.isnil j) (E2.base j)
  have hfresh : E2.isnil j = false → W.heap.size ≤ E2.blk j := fun hn => by
    have hlive : liveAt E2 j (.grow nn ty sz row) = true := by simp [liveAt, hn]
    rcases ht.mine (E2.blk j) ⟨_, _, hb, rfl, hlive, rfl⟩ with ⟨b, blk, hb1, hm1, _⟩ | hge
    · rw [hm b blk hb1] at hm1; cases hm1
    · exact hge
  refine ⟨x, _, rfl, .inr ⟨by
    simp only [inS, inSs_append, inSs, Bool.and_eq_true]
    exact ⟨(plainVs_conc (E := E) (E' := E) pre hpre).2, by simp, (plainVs_conc (E := E) (E' := E) post hpost).2⟩, ?_⟩, Holds.snoc (k1.keep hE fun _ _ => rfl) ⟨by simp [Env.one, hd], (rowPlain_ok hr E E _).1, hz, by simp [Env.one, hl], by simp [Env.one, hcap], fun hn => ⟨(hnil (by simpa [Env.one] using hn)).1, by
    have h0 := (hnil (by simpa [Env.one] using hn)).2
    cases hx2 : n2 with
    | false => rfl
    | true => rw [hnn hx2] at h0; cases h0⟩, fun hn => ?_⟩ (fun b y hb1 hl1 hl2' _ he => ?_), ?_⟩
  · rw [(hx.val (by simp)).1]
    simp only [conc, concs_append, concs]
    rw [(plainVs_conc (E := E2) (E' := E.one h.length (E2.blk j) (E2.delta j) (E2.len j) (E2.cap j) (E2.isnil j) (E2.base j)) (n := 0) pre hpre).1, (plainVs_conc (E := E2) (E' := E.one h.length (E2.blk j) (E2.delta j) (E2.len j) (E2.cap j) (E2.isnil j) (E2.base j)) (n := 0) post hpost).1]
    simp [Env.one, hd]
  · obtain ⟨fz, spare, hfz, hsp, hcc⟩ := hc (by simpa [Env.one] using hn)
    refine ⟨fz, spare, hfz, by simp only [Env.one, if_true]; exact hsp, ?_⟩
    simp only [Env.one, if_true]
    rw [hcc]
    congr 4
    have hpl := (rowPlain_ok hr E2 (E.one h.length (E2.blk j) (E2.delta j) (E2.len j) (E2.cap j) (E2.isnil j) (E2.base j)) 0).2
    rw [concs_eq, concs_eq]
    apply List.ext_getElem?
    intro j
    rw [List.getElem?_map, List.getElem?_map]
    cases hj : row.toVs[j]? with
    | none => rfl
    | some u =>
      simp only [Option.map_some]
      exact congrArg some (hpl j u hj)
  · have h5 := hfresh (by simpa [liveAt, Env.one] using hl2')
    have h6 := (hh.ok b y hb1).lt (by rw [← liveAt_agree hE (getElem?_lt hb1)]; exact hl1)
    rw [hE.blk _ (getElem?_lt hb1)] at he
    simp only [Env.one, if_true] at he
    omega
  · refine ⟨hE, by simp, fun z hz => ?_, k2.frame, k2.size, k2.os, k2.tape, k2.output⟩
    obtain ⟨b', y, hb1, hm1, hl1, he1⟩ := hz
    rcases getElem?_snoc hb1 with hb1 | ⟨q3, q4⟩
    · have hlt := getElem?_lt hb1
      rw [liveAt_agree hE hlt] at hl1
      rw [hE.blk _ hlt] at he1
      exact .inl ⟨b', y, hb1, hm1, hl1, he1⟩
    · subst q3; subst q4
      simp only [Env.one, if_true] at he1
      have := hfresh (by simpa [liveAt, Env.one] using hl1)
      exact .inr (by omega)
theorem FnOK.lastAtT {P : Program} {f : FuncId} {args : List V} {h h' : List Blk} {j : Nat} {nn : Bool} {ty : TypeId} {sz : Nat} {row : Row} {k : IntKind} {z : Int} (hk : FnOK P f args h (.tuple [.gs j, .int k z]) h') (hb : h'[j]? = some (.grow nn ty sz row)) (hr : rowPlain row = true)
    (hm : ∀ (b : Nat) blk, h[b]? = some blk → blk.mine = false) : FnOK P f args h (.tuple [.gs h.length, .int k z]) (h ++ [.grow nn ty sz row]) := hk.lastAtW id hb hr hm
/-- A nil slice in an answer, taken for an empty slice of ours. -/
theorem FnOK.nilR {P : Program} {f : FuncId} {args : List V} {h h' : List Blk} {ty : TypeId} {row : Row} (hrow : row.toVs = []) {k : IntKind} {z : Int} (hk : FnOK P f args h (.tuple [.flat (.slice none 0 0), .int k z]) h')
    (hm : ∀ (b : Nat) blk, h[b]? = some blk → blk.mine = false) : FnOK P f args h (.tuple [.gs h.length, .int k z]) (h ++ [.grow false ty 1 row]) := by
  have hk := hk.plain rfl hm
  intro E W hh hin
  refine (hk E W hh hin).mono ?_
  rintro e W' ⟨x, E2, rfl, hx, hh2, ht⟩
  have hg : AllGh [.grow false ty 1 row] := by
    intro b hb
    rw [List.mem_singleton] at hb
    subst hb
    exact .mk _ _ _ hrow (by omega)
  refine ⟨x, E2.gh h.length, rfl, .inr ⟨by simp [inS, inSs], ?_⟩, gh_holds hh2 hg, ⟨ht.agree.trans (Agree.gh E2 _) (Nat.le_refl _), by simp, fun z hz => ht.mine z (gh_mine hg hz), ht.frame, ht.size, ht.os, ht.tape, ht.output⟩⟩
  rw [(hx.val (by simp)).1]
  simp [conc, concs]
  simp [Env.gh]
theorem plain_app : ∀ {pre post : List V} {v : Value}, plainVs pre = true → plainVs post = true → plainV (.tuple (pre ++ .flat v :: post)) = true := by
  intro pre post v h1 h2
  simp only [plainV]
  induction pre with
  | nil => simpa [plainVs, plainV] using h2
  | cons x r ih =>
    simp only [plainVs, Bool.and_eq_true, List.cons_append] at h1 ⊢
    exact ⟨h1.1, ih h1.2⟩
theorem FnOK.nilL {P : Program} {f : FuncId} {args : List V} {h h' : List Blk} {ty : TypeId} {row : Row} (hrow : row.toVs = []) {pre post : List V} (hpre : plainVs pre = true) (hpost : plainVs post = true) (hk : FnOK P f args h (.tuple (pre ++ .flat (.slice none 0 0) :: post)) h')
    (hm : ∀ (b : Nat) blk, h[b]? = some blk → blk.mine = false) : FnOK P f args h (.tuple (pre ++ .gs h.length :: post)) (h ++ [.grow false ty 1 row]) := by
  have hk := hk.plain (plain_app hpre hpost) hm
  intro E W hh hin
  refine (hk E W hh hin).mono ?_
  rintro e W' ⟨x, E2, rfl, hx, hh2, ht⟩
  have hg : AllGh [.grow false ty 1 row] := by
    intro b hb
    rw [List.mem_singleton] at hb
    subst hb
    exact .mk _ _ _ hrow (by omega)
  refine ⟨x, E2.gh h.length, rfl, .inr ⟨by
    simp only [inS, inSs_append, inSs, Bool.and_eq_true]
    exact ⟨(plainVs_conc (E := E) (E' := E) pre hpre).2, by simp, (plainVs_conc (E := E) (E' := E) post hpost).2⟩, ?_⟩, gh_holds hh2 hg, ⟨ht.agree.trans (Agree.gh E2 _) (Nat.le_refl _), by simp, fun z hz => ht.mine z (gh_mine hg hz), ht.frame, ht.size, ht.os, ht.tape, ht.output⟩⟩
  rw [(hx.val (by simp)).1]
  simp only [conc, concs_append, concs]
  rw [(plainVs_conc (E := E2) (E' := E2.gh h.length) (n := 0) pre hpre).1, (plainVs_conc (E := E2) (E' := E2.gh h.length) (n := 0) post hpost).1]
  simp [Env.gh]
theorem FnOK.nilT {P : Program} {f : FuncId} {args : List V} {h h' : List Blk} {ty : TypeId} {kk k : IntKind} {z : Int} (hk : FnOK P f args h (.tuple [.flat (.slice none 0 0), .int k z]) h')
    (hm : ∀ (b : Nat) blk, h[b]? = some blk → blk.mine = false) : FnOK P f args h (.tuple [.gs h.length, .int k z]) (h ++ [.grow false ty 1 (.ints kk [])]) := hk.nilR rfl hm
end Go.Eng

/- ENGINE, PART 17f: a slice that came in and may be nil: by cases; slices.Clone. -/
namespace Go.Eng
open Go
/-- The second block says no more than the first one: whether a slice is not nil, and how its row is written. -/
inductive Soft : Blk → Blk → Prop
  | refl (x : Blk) : Soft x x
  | rs (nn nn' : Bool) (sz : Nat) (r r' : Row) : r'.toVs = r.toVs → (nn' = true → nn = true) → Soft (.rs nn sz r) (.rs nn' sz r')
  | grow (nn nn' : Bool) (ty : TypeId) (sz : Nat) (r r' : Row) : r'.toVs = r.toVs → (nn' = true → nn = true) → Soft (.grow nn ty sz r) (.grow nn' ty sz r')
theorem Soft.ok {x y : Blk} (h : Soft x y) {E : Env} {n b : Nat} {W : World} (hk : BlkOk E n W b x) : BlkOk E n W b y ∧ y.mine = x.mine ∧ liveAt E b y = liveAt E b x := by
  cases h with
  | refl => exact ⟨hk, rfl, rfl⟩
  | rs nn nn' sz r r' hv hn =>
    have hl : r'.len = r.len := by rw [Row.len_eq, Row.len_eq, hv]
    obtain ⟨h1, h2, h3, h4, h5, h6⟩ := hk
    refine ⟨⟨by rw [hv]; exact h1, h2, by rw [hl]; exact h3, h4, fun hi => ⟨by rw [hl]; exact (h5 hi).1, ?_⟩, by rw [hv]; exact h6⟩, rfl, by simp only [liveAt, hv]⟩
    cases nn' with
    | false => rfl
    | true => have := (h5 hi).2; rw [hn rfl] at this; cases this
  | grow nn nn' ty sz r r' hv hn =>
    have hl : r'.len = r.len := by rw [Row.len_eq, Row.len_eq, hv]
    obtain ⟨h0, h1, h2, h3, h4, h5, h6⟩ := hk
    refine ⟨⟨h0, by rw [hv]; exact h1, h2, by rw [hl]; exact h3, h4, fun hi => ⟨by rw [hl]; exact (h5 hi).1, ?_⟩, by rw [hv, hl]; exact h6⟩, rfl, rfl⟩
    cases nn' with
    | false => rfl
    | true => have := (h5 hi).2; rw [hn rfl] at this; cases this
theorem Holds.soft {E : Env} {h h' : List Blk} {W : World} (hh : Holds E h W) (hl : h'.length = h.length) (hs : ∀ (b : Nat) y, h'[b]? = some y → ∃ x, h[b]? = some x ∧ Soft x y) : Holds E h' W ∧ ∀ k, Mine E h' k → Mine E h k := by
  refine ⟨⟨fun b y hb => ?_, fun b b' y y' hb hb' hm hlv hlv' he => ?_⟩, fun k hk => ?_⟩
  · obtain ⟨x, hx, h1⟩ := hs b y hb
    rw [hl]; exact (h1.ok (hh.ok b x hx)).1
  · obtain ⟨x, hx, h1⟩ := hs b y hb
    obtain ⟨x', hx', h1'⟩ := hs b' y' hb'
    obtain ⟨_, q1, q2⟩ := h1.ok (hh.ok b x hx)
    obtain ⟨_, q1', q2'⟩ := h1'.ok (hh.ok b' x' hx')
    exact hh.inj b b' x x' hx hx' (by rw [← q1]; exact hm) (by rw [← q2]; exact hlv) (by rw [← q2']; exact hlv') he
  · obtain ⟨b, y, hb, hm, hlv, he⟩ := hk
    obtain ⟨x, hx, h1⟩ := hs b y hb
    obtain ⟨_, q1, q2⟩ := h1.ok (hh.ok b x hx)
    exact ⟨b, x, hx, by rw [← q1]; exact hm, by rw [← q2]; exact hlv, he⟩
theorem no_mine1 {E : Env} {nn : Bool} {sz : Nat} {row : Row} (k : Nat) : ¬ Mine E [.rs nn sz row] k := by
  rintro ⟨b, blk, hb, hm, _⟩
  cases b with
  | zero => simp at hb; subst hb; cases hm
  | succ b => simp at hb
/-- A function that answers a copy of the slice that it is handed (nil where it is nil). -/
theorem FnOK.clone {P : Program} {f : FuncId} {ty : TypeId} {row : Row}
    (hA : FnOK P f [.gs 0] [.rs true 1 row] (.gs 1) ([.rs true 1 row] ++ [.grow true ty 1 row]))
    (hB : FnOK P f [.flat (.slice none 0 0)] [] (.flat (.slice none 0 0)) [])
    (hC : ∀ a, FnOK P f [.flat (.slice (some a) 0 0)] [] (.gs 0) ([] ++ [.grow true ty 1 (.vs [])])) (nn : Bool) :
    FnOK P f [.gs 0] [.rs nn 1 row] (.gs 1) ([.rs nn 1 row] ++ [.grow false ty 1 row]) := by
  intro E W hh hin
  obtain ⟨h1, h2, h3, h4, h5, h6⟩ := hh.ok 0 (.rs nn 1 row) rfl
  cases hn : E.isnil 0 with
  | false =>
    have hh' : Holds E [.rs true 1 row] W := by
      refine ⟨fun b blk hb => ?_, fun b b' x x' hb hb' hm _ _ _ => ?_⟩
      · cases b with
        | zero => simp at hb; subst hb; exact ⟨h1, h2, h3, h4, fun hi => (by rw [hn] at hi; cases hi), h6⟩
        | succ b => simp at hb
      · cases b with
        | zero => simp at hb; subst hb; cases hm
        | succ b => simp at hb
    refine (hA E W hh' hin).mono ?_
    rintro e W' ⟨x, E2, rfl, hx, hh2, ht⟩
    have hag := ht.agree.isnil 0 (by simp)
    rw [hn] at hag
    obtain ⟨q1, q2⟩ := Holds.soft (h' := [.rs nn 1 row] ++ [.grow false ty 1 row]) hh2 rfl (fun b y hb => by
      cases b with
      | zero =>
        simp at hb; subst hb
        exact ⟨_, rfl, .rs true nn 1 row row rfl (fun _ => rfl)⟩
      | succ b => cases b with
        | zero => simp at hb; subst hb; exact ⟨_, rfl, .grow true false ty 1 row row rfl (fun h => by cases h)⟩
        | succ b => simp at hb)
    exact ⟨x, E2, rfl, hx, q1, ⟨ht.agree, by simp, fun k hk => (ht.mine k (q2 k hk)).elim (fun h => absurd h (no_mine1 k)) .inr, fun k hk _ => ht.frame k hk (no_mine1 k), ht.size, ht.os, ht.tape, ht.output⟩⟩
  | true =>
    have hrow : row.toVs = [] := List.eq_nil_of_length_eq_zero (by rw [← Row.len_eq]; exact (h5 hn).1)
    cases hb : E.base 0 with
    | none =>
      have hcall := hB E W ⟨fun b blk hb => by simp at hb, fun b b' blk blk' hb => by simp at hb⟩ rfl
      have hargs : concs E [.flat (.slice none 0 0)] = concs E [.gs 0] := by simp [concs, conc, hn, hb]
      rw [hargs] at hcall
      refine hcall.mono ?_
      rintro e W' ⟨x, E2, rfl, hx, _, ht⟩
      have hBl := Trans.below_ro (fun b blk hb => by simp at hb) ht
      obtain ⟨k1, k2⟩ := hh.below hBl
      have hg : AllGh [.grow false ty 1 row] := by
        intro b hb
        rw [List.mem_singleton] at hb
        subst hb
        exact .mk _ _ _ hrow (by omega)
      refine ⟨x, E.gh 1, rfl, .inr ⟨by simp [inS], ?_⟩, gh_holds k1 hg, ⟨k2.agree.trans (Agree.gh E _) (Nat.le_refl _), by simp, fun z hz => k2.mine z (gh_mine hg hz), k2.frame, k2.size, k2.os, k2.tape, k2.output⟩⟩
      rw [(hx.val (by simp)).1]
      simp [conc, Env.gh]
    | some a =>
      have hcall := hC a E W ⟨fun b blk hb => by simp at hb, fun b b' blk blk' hb => by simp at hb⟩ rfl
      have hargs : concs E [.flat (.slice (some a) 0 0)] = concs E [.gs 0] := by simp [concs, conc, hn, hb]
      rw [hargs] at hcall
      refine hcall.mono ?_
      rintro e W' ⟨x, E2, rfl, hx, hh2, ht⟩
      obtain ⟨q1, q2⟩ := fresh_holds (H := [.rs nn 1 row]) (h := []) (nb := [.grow true ty 1 (.vs [])]) hh hh2 ht (fun b blk hb => by simp at hb) rfl
      obtain ⟨s1, s2⟩ := Holds.soft (h' := [.rs nn 1 row] ++ [.grow false ty 1 row]) q1 rfl (fun b y hb => by
        cases b with
        | zero => simp at hb; subst hb; exact ⟨_, rfl, .refl _⟩
        | succ b => cases b with
          | zero => simp at hb; subst hb; exact ⟨_, rfl, .grow true false ty 1 (.vs []) row (by rw [hrow]; rfl) (fun h => by cases h)⟩
          | succ b => simp at hb)
      refine ⟨x, _, rfl, .inr ⟨by simp [inS], ?_⟩, s1, ⟨q2.agree, by simp, fun k hk => q2.mine k (s2 k hk), q2.frame, q2.size, q2.os, q2.tape, q2.output⟩⟩
      obtain ⟨hx1, hx2⟩ := hx.val (by simp)
      obtain ⟨k1, _⟩ := conc_sh (AgreeAt.join E E2 0 1 1) (.gs 0) hx2 rfl
      rw [hx1, ← k1]; rfl
end Go.Eng

/- ENGINE, PART 22: contracts of functions that are handed structures with slices in them, or answer such. -/
namespace Go.Eng
open Go
section
variable {R : Type}
/-- The fields of a structure: slices as blocks of a heap of their own; nr tells for a block's number how a nil slice is written there. -/
def locFs (nr : Nat → Option Row) : List V → List Blk → List Blk → (List V → List Blk → Option R) → Option R
  | [], _, h, K => K [] h
  | x :: r, H, h, K => locN (nr h.length) x H h.length (fun x' nb => locFs nr r H (h ++ nb) (fun r' h' => K (x' :: r') h'))
theorem locFs_ok {nr : Nat → Option Row} {H : List Blk} : ∀ {args : List V} {h : List Blk} {K : List V → List Blk → Option R} {r : R}, locFs nr args H h K = some r → ∃ args' h', K args' h' = some r ∧
    ∀ E W, Holds E H W → inSs H.length args = true → ∀ E0, Holds E0 h W → (∀ (b : Nat) blk, h[b]? = some blk → blk.mine = false) →
      ∃ E1, Agree h.length E0 E1 ∧ h.length ≤ h'.length ∧ Holds E1 h' W ∧ concs E1 args' = concs E args ∧ inSs h'.length args' = true ∧ ∀ (b : Nat) blk, h'[b]? = some blk → blk.mine = false
  | [], h, K, r, hr => ⟨[], h, hr, fun E W hh hs E0 h0 hro => ⟨E0, Agree.refl _ _, Nat.le_refl _, h0, rfl, rfl, hro⟩⟩
  | x :: q, h, K, r, hr => by
    unfold locFs at hr
    obtain ⟨x', nb, h1, H1⟩ := locN_ok hr
    obtain ⟨q', h', h2, H2⟩ := locFs_ok h1
    refine ⟨x' :: q', h', h2, fun E W hh hs E0 h0 hro => ?_⟩
    simp only [inSs, Bool.and_eq_true] at hs
    obtain ⟨E1, a1, b1, c1, d1, e1⟩ := H1 E W hh hs.1 E0 h h0 rfl hro
    obtain ⟨E2, a2, l2, b2, c2, d2, e2⟩ := H2 E W hh hs.2 E1 b1 e1
    have hle : h.length ≤ (h ++ nb).length := by simp
    refine ⟨E2, a1.trans a2 hle, Nat.le_trans hle l2, b2, ?_, ?_, e2⟩
    · simp only [concs]
      rw [conc_agree a2 x' d1, c1, c2]
    · simp only [inSs, Bool.and_eq_true]
      exact ⟨inS_mono l2 x' d1, d2⟩
def locX (nr : Nat → Option Row) : List V → List Blk → List Blk → (List V → List Blk → Option R) → Option R
  | [], _, h, K => K [] h
  | .agg l :: r, H, h, K => locFs nr l H h (fun l' h1 => locX nr r H h1 (fun r' h2 => K (.agg l' :: r') h2))
  | x :: r, H, h, K => locN (nr h.length) x H h.length (fun x' nb => locX nr r H (h ++ nb) (fun r' h' => K (x' :: r') h'))
theorem locX_ok {nr : Nat → Option Row} {H : List Blk} : ∀ {args : List V} {h : List Blk} {K : List V → List Blk → Option R} {r : R}, locX nr args H h K = some r → ∃ args' h', K args' h' = some r ∧
    ∀ E W, Holds E H W → inSs H.length args = true → ∀ E0, Holds E0 h W → (∀ (b : Nat) blk, h[b]? = some blk → blk.mine = false) →
      ∃ E1, Agree h.length E0 E1 ∧ h.length ≤ h'.length ∧ Holds E1 h' W ∧ concs E1 args' = concs E args ∧ inSs h'.length args' = true ∧ ∀ (b : Nat) blk, h'[b]? = some blk → blk.mine = false
  | [], h, K, r, hr => ⟨[], h, hr, fun E W hh hs E0 h0 hro => ⟨E0, Agree.refl _ _, Nat.le_refl _, h0, rfl, rfl, hro⟩⟩
  | x :: q, h, K, r, hr => by
    have main : ∀ {K' : V → List Blk → Option R}, (∀ {x' : V} {h1 : List Blk}, K' x' h1 = locX nr q H h1 (fun r' h2 => K (x' :: r') h2)) →
        (∃ x' h1, K' x' h1 = some r ∧ ∀ E W, Holds E H W → inS H.length x = true → ∀ E0, Holds E0 h W → (∀ (b : Nat) blk, h[b]? = some blk → blk.mine = false) →
          ∃ E1, Agree h.length E0 E1 ∧ h.length ≤ h1.length ∧ Holds E1 h1 W ∧ conc E1 x' = conc E x ∧ inS h1.length x' = true ∧ ∀ (b : Nat) blk, h1[b]? = some blk → blk.mine = false) →
        ∃ args' h', K args' h' = some r ∧ ∀ E W, Holds E H W → inSs H.length (x :: q) = true → ∀ E0, Holds E0 h W → (∀ (b : Nat) blk, h[b]? = some blk → blk.mine = false) →
          ∃ E1, Agree h.length E0 E1 ∧ h.length ≤ h'.length ∧ Holds E1 h' W ∧ concs E1 args' = concs E (x :: q) ∧ inSs h'.length args' = true ∧ ∀ (b : Nat) blk, h'[b]? = some blk → blk.mine = false := by
      intro K' hK' hx
      obtain ⟨x', h1, h2, H1⟩ := hx
      rw [hK'] at h2
      obtain ⟨q', h', h3, H2⟩ := locX_ok h2
      refine ⟨x' :: q', h', h3, fun E W hh hs E0 h0 hro => ?_⟩
      simp only [inSs, Bool.and_eq_true] at hs
      obtain ⟨E1, a1, l1, b1, c1, d1, e1⟩ := H1 E W hh hs.1 E0 h0 hro
      obtain ⟨E2, a2, l2, b2, c2, d2, e2⟩ := H2 E W hh hs.2 E1 b1 e1
      refine ⟨E2, a1.trans a2 l1, Nat.le_trans l1 l2, b2, ?_, ?_, e2⟩
      · simp only [concs]
        rw [conc_agree a2 x' d1, c1, c2]
      · simp only [inSs, Bool.and_eq_true]
        exact ⟨inS_mono l2 x' d1, d2⟩
    have plainCase : locN (nr h.length) x H h.length (fun x' nb => locX nr q H (h ++ nb) (fun r' h' => K (x' :: r') h')) = some r →
        ∃ args' h', K args' h' = some r ∧ ∀ E W, Holds E H W → inSs H.length (x :: q) = true → ∀ E0, Holds E0 h W → (∀ (b : Nat) blk, h[b]? = some blk → blk.mine = false) →
          ∃ E1, Agree h.length E0 E1 ∧ h.length ≤ h'.length ∧ Holds E1 h' W ∧ concs E1 args' = concs E (x :: q) ∧ inSs h'.length args' = true ∧ ∀ (b : Nat) blk, h'[b]? = some blk → blk.mine = false := fun hr => by
      obtain ⟨x', nb, h1, H1⟩ := locN_ok hr
      refine main (K' := fun x' h1 => locX nr q H h1 (fun r' h2 => K (x' :: r') h2)) rfl ⟨x', h ++ nb, h1, fun E W hh hs E0 h0 hro => ?_⟩
      obtain ⟨E1, a1, b1, c1, d1, e1⟩ := H1 E W hh hs E0 h h0 rfl hro
      exact ⟨E1, a1, by simp, b1, c1, d1, e1⟩
    cases x with
    | agg l =>
      unfold locX at hr
      obtain ⟨l', h1, h2, H1⟩ := locFs_ok hr
      refine main (K' := fun x' h1 => locX nr q H h1 (fun r' h2 => K (x' :: r') h2)) rfl ⟨.agg l', h1, h2, fun E W hh hs E0 h0 hro => ?_⟩
      obtain ⟨E1, a1, l1, b1, c1, d1, e1⟩ := H1 E W hh (by simpa [inS] using hs) E0 h0 hro
      exact ⟨E1, a1, l1, b1, by simp only [conc, c1], by simpa [inS] using d1, e1⟩
    | _ => unfold locX at hr; exact plainCase hr
def hOrcA (gl : FuncId → List Nat) (nr : FuncId → Nat → Option Row) (T : HTab) : Oracle := fun _ t args H K => match t with
  | .fn f => locG (gl f) H [] (fun h0 => locX (nr f) args H h0 (fun args' h => match T f args' h with
    | some (c, v, nb) => cond c (match freshBs h.length nb && fromV h.length v with
      | true => K (shV h.length H.length v) [] (.all (H ++ shBs h.length H.length nb))
      | false => none) none
    | none => none))
  | .yield _ => none
theorem hOrcA_ok {P : Program} {gl : FuncId → List Nat} {nr : FuncId → Nat → Option Row} {T : HTab} (hT : HTabOk P T) : OracleOk P (hOrcA gl nr T) := by
  intro R t args H K r hr
  unfold hOrcA at hr
  split at hr
  · rename_i f
    obtain ⟨h0, hr, HG⟩ := locG_ok hr
    obtain ⟨args', h, hk, HL⟩ := locX_ok hr
    split at hk
    · rename_i c v nb hq
      cases c with
      | false => cases hk
      | true =>
        rw [cond_true] at hk
        split at hk
        · rename_i hfr
          simp only [Bool.and_eq_true] at hfr
          obtain ⟨hent, hfn⟩ := hT f args' h true v nb hq rfl
          refine ⟨_, _, _, hk, rfl, hent, fun h2 hs => ?_, fun _ _ he => (by cases he)⟩
          rw [show h2 = H from hs]
          intro E W hh hin
          obtain ⟨E0, _, _, g5, g6⟩ := HG E W hh { blk := fun _ => 0, delta := fun _ => 0, len := fun _ => 0, cap := fun _ => 0, isnil := fun _ => false, base := fun _ => none } ⟨fun b blk hb => by simp at hb, fun b b' blk blk' hb => by simp at hb⟩ (fun b blk hb => by simp at hb)
          obtain ⟨E1, _, _, g1, g2, g3, g4⟩ := HL E W hh hin E0 g5 g6
          have := hfn E1 W g1 g3
          rw [g2] at this
          refine this.mono ?_
          rintro e W' ⟨x, E2, rfl, hx, hh', ht⟩
          obtain ⟨q1, q2⟩ := fresh_holds hh hh' ht g4 hfr.1
          refine ⟨x, _, rfl, ?_, q1, q2⟩
          rcases hx with rfl | ⟨hx1, hx2⟩
          · exact .inl rfl
          · rw [List.length_append] at hx1
            obtain ⟨k1, k2⟩ := conc_sh (AgreeAt.join E E2 h.length H.length nb.length) v hx1 hfr.2
            refine .inr ⟨?_, by rw [hx2, k1]⟩
            simp only [HEff.app, List.length_append, shBs_eq, List.length_map]
            exact k2
        · cases hk
    · cases hk
  · cases hr
/-! ### the same, where the call only reads -/
theorem locFs_bind (nr : Nat → Option Row) : ∀ (args : List V) (R : Type) (H h : List Blk) (K : List V → List Blk → Option R), locFs nr args H h K = (locFs nr args H h (fun a b => some (a, b))).bind (fun p => K p.1 p.2)
  | [], R, H, h, K => rfl
  | x :: r, R, H, h, K => by
    simp only [locFs]
    rw [locN_bind (nr h.length) x H h.length (fun x' nb => locFs nr r H (h ++ nb) (fun r' h' => K (x' :: r') h')), locN_bind (nr h.length) x H h.length (fun x' nb => locFs nr r H (h ++ nb) (fun r' h' => some (x' :: r', h')))]
    cases locN (nr h.length) x H h.length (fun a b => some (a, b)) with
    | none => rfl
    | some p =>
      simp only [Option.bind_some]
      rw [locFs_bind nr r R H (h ++ p.2) (fun r' h' => K (p.1 :: r') h'), locFs_bind nr r _ H (h ++ p.2) (fun r' h' => some (p.1 :: r', h'))]
      cases locFs nr r H (h ++ p.2) (fun a b => some (a, b)) with
      | none => rfl
      | some q => rfl
theorem locX_bind (nr : Nat → Option Row) : ∀ (args : List V) (R : Type) (H h : List Blk) (K : List V → List Blk → Option R), locX nr args H h K = (locX nr args H h (fun a b => some (a, b))).bind (fun p => K p.1 p.2)
  | [], R, H, h, K => rfl
  | x :: r, R, H, h, K => by
    have pc : ∀ (S : Type) (K : List V → List Blk → Option S), locN (nr h.length) x H h.length (fun x' nb => locX nr r H (h ++ nb) (fun r' h' => K (x' :: r') h')) = (locN (nr h.length) x H h.length (fun x' nb => locX nr r H (h ++ nb) (fun r' h' => some (x' :: r', h')))).bind (fun p => K p.1 p.2) := fun S K => by
      rw [locN_bind (nr h.length) x H h.length (fun x' nb => locX nr r H (h ++ nb) (fun r' h' => K (x' :: r') h')), locN_bind (nr h.length) x H h.length (fun x' nb => locX nr r H (h ++ nb) (fun r' h' => some (x' :: r', h')))]
      cases locN (nr h.length) x H h.length (fun a b => some (a, b)) with
      | none => rfl
      | some p =>
        simp only [Option.bind_some]
        rw [locX_bind nr r S H (h ++ p.2) (fun r' h' => K (p.1 :: r') h'), locX_bind nr r _ H (h ++ p.2) (fun r' h' => some (p.1 :: r', h'))]
        cases locX nr r H (h ++ p.2) (fun a b => some (a, b)) with
        | none => rfl
        | some q => rfl
    cases x with
    | agg l =>
      simp only [locX]
      rw [locFs_bind nr l R H h (fun l' h1 => locX nr r H h1 (fun r' h2 => K (.agg l' :: r') h2)), locFs_bind nr l _ H h (fun l' h1 => locX nr r H h1 (fun r' h2 => some (.agg l' :: r', h2)))]
      cases locFs nr l H h (fun a b => some (a, b)) with
      | none => rfl
      | some p =>
        simp only [Option.bind_some]
        rw [locX_bind nr r R H p.2 (fun r' h' => K (.agg p.1 :: r') h'), locX_bind nr r _ H p.2 (fun r' h' => some (.agg p.1 :: r', h'))]
        cases locX nr r H p.2 (fun a b => some (a, b)) with
        | none => rfl
        | some q => rfl
    | _ => simp only [locX]; exact pc R K
def nmX : List V → List Nat
  | [] => []
  | .agg l :: r => nmVs l ++ nmX r
  | x :: r => nameOf x ++ nmX r
theorem locFs_nm {nr : Nat → Option Row} {H H2 : List Blk} : ∀ {args : List V} {h : List Blk} {K : List V → List Blk → Option R}, (∀ b ∈ nmVs args, H2[b]? = H[b]?) → locFs nr args H2 h K = locFs nr args H h K
  | [], h, K, _ => rfl
  | x :: r, h, K, he => by
    simp only [locFs]
    rw [locN_nm (H := H) (fun b hb => he b (by simp [nmVs, hb]))]
    congr 1
    funext x' nb
    exact locFs_nm (fun b hb => he b (by simp [nmVs, hb]))
theorem locX_nm {nr : Nat → Option Row} {H H2 : List Blk} : ∀ {args : List V} {h : List Blk} {K : List V → List Blk → Option R}, (∀ b ∈ nmX args, H2[b]? = H[b]?) → locX nr args H2 h K = locX nr args H h K
  | [], h, K, _ => rfl
  | x :: r, h, K, he => by
    cases x with
    | agg l =>
      simp only [locX]
      rw [locFs_nm (H := H) (fun b hb => he b (by simp [nmX, hb]))]
      congr 1
      funext x' nb
      exact locX_nm (fun b hb => he b (by simp [nmX, hb]))
    | _ =>
      simp only [locX]
      rw [locN_nm (H := H) (fun b hb => he b (by simp [nmX, hb]))]
      congr 1
      funext x' nb
      exact locX_nm (fun b hb => he b (by simp [nmX, hb]))
def hOrcX (nr : FuncId → Nat → Option Row) (T : HTab) : Oracle := fun _ t args H K => match t with
  | .fn f => locX (nr f) args H [] (fun args' h => match T f args' h with
    | some (c, v, nb) => cond c (match nb with
      | [] => match plainV v with
        | true => K v (nmX args) .none
        | false => none
      | nb => match freshBs h.length nb && fromV h.length v with
        | true => K (shV h.length H.length v) [] (.all (H ++ shBs h.length H.length nb))
        | false => none) none
    | none => none)
  | .yield _ => none
theorem locX_call {P : Program} {T : HTab} (hT : HTabOk P T) {nr : Nat → Option Row} {f : FuncId} {args args' : List V} {H h nb : List Blk} {v : V} (hl : locX nr args H [] (fun a b => some (a, b)) = some (args', h)) (hq : T f args' h = some (true, v, nb)) :
    ∀ E W, Holds E H W → inSs H.length args = true → ∃ E1, Holds E1 h W ∧ (∀ (b : Nat) blk, h[b]? = some blk → blk.mine = false) ∧ Calls P f (concs E args).toArray W (EndsIn E1 W h v (h ++ nb)) := by
  intro E W hh hin
  obtain ⟨a2, h2, hk, HL⟩ := locX_ok hl
  cases hk
  obtain ⟨E1, _, _, g1, g2, g3, g4⟩ := HL E W hh hin { blk := fun _ => 0, delta := fun _ => 0, len := fun _ => 0, cap := fun _ => 0, isnil := fun _ => false, base := fun _ => none } ⟨fun b blk hb => by simp at hb, fun b b' blk blk' hb => by simp at hb⟩ (fun b blk hb => by simp at hb)
  obtain ⟨_, hfn⟩ := hT f args' h true v nb hq rfl
  have := hfn E1 W g1 g3
  rw [g2] at this
  exact ⟨E1, g1, g4, this⟩
theorem hOrcX_ok {P : Program} {nr : FuncId → Nat → Option Row} {T : HTab} (hT : HTabOk P T) : OracleOk P (hOrcX nr T) := by
  intro R t args H K r hr
  unfold hOrcX at hr
  split at hr
  · rename_i f
    rw [locX_bind] at hr
    cases hl : locX (nr f) args H [] (fun a b => some (a, b)) with
    | none => rw [hl] at hr; cases hr
    | some p =>
      obtain ⟨args', h⟩ := p
      rw [hl] at hr
      simp only [Option.bind_some] at hr
      have hl2 : ∀ H2, (∀ b ∈ nmX args, H2[b]? = H[b]?) → locX (nr f) args H2 [] (fun a b => some (a, b)) = some (args', h) := fun H2 he => by rw [locX_nm he]; exact hl
      split at hr
      · rename_i c v nb hq
        cases c with
        | false => cases hr
        | true =>
          rw [cond_true] at hr
          have hent := (hT f args' h true v nb hq rfl).1
          split at hr
          · split at hr
            · rename_i hpv
              refine ⟨v, _, _, hr, fun _ _ => rfl, hent, fun h2 hs => ?_, fun _ _ he => (by cases he)⟩
              intro E W hh hin
              obtain ⟨E1, _, hm, hcall⟩ := locX_call hT (hl2 h2 hs) hq E W hh hin
              refine hcall.mono ?_
              rintro e W' ⟨x, E2, rfl, hx, _, ht⟩
              obtain ⟨k1, k2⟩ := hh.below (keeps_of hm ht).below
              refine ⟨x, E, rfl, ?_, k1, k2⟩
              rcases hx with rfl | ⟨_, hx2⟩
              · exact .inl rfl
              · obtain ⟨p1, p2⟩ := plainV_conc (E := E2) (E' := E) (n := h2.length) v hpv
                exact .inr ⟨p2, by rw [hx2]; exact p1⟩
            · cases hr
          · split at hr
            · rename_i hfr
              simp only [Bool.and_eq_true] at hfr
              refine ⟨_, _, _, hr, rfl, hent, fun h2 hs => ?_, fun _ _ he => (by cases he)⟩
              rw [show h2 = H from hs]
              intro E W hh hin
              obtain ⟨E1, g1, g4, hcall⟩ := locX_call hT hl hq E W hh hin
              refine hcall.mono ?_
              rintro e W' ⟨x, E2, rfl, hx, hh', ht⟩
              obtain ⟨q1, q2⟩ := fresh_holds hh hh' ht g4 hfr.1
              refine ⟨x, _, rfl, ?_, q1, q2⟩
              rcases hx with rfl | ⟨hx1, hx2⟩
              · exact .inl rfl
              · rw [List.length_append] at hx1
                obtain ⟨k1, k2⟩ := conc_sh (AgreeAt.join E E2 h.length H.length nb.length) v hx1 hfr.2
                refine .inr ⟨?_, by rw [hx2, k1]⟩
                simp only [HEff.app, List.length_append, shBs_eq, List.length_map]
                exact k2
            · cases hr
      · cases hr
  · cases hr
end
/-! ### what a function answers, matched against a template: nil slices taken for blocks, rows tidied -/
theorem FnOK.ghost {P : Program} {f : FuncId} {args : List V} {h h' : List Blk} {v : V} (T : Tm) (hk : FnOK P f args h v h') : ∀ s, (⟨[v], h', []⟩ : AS).ghost T = s → ∃ v2, s.tmps = [v2] ∧ s.marks = [] ∧ FnOK P f args h v2 s.heap := by
  rintro s rfl
  unfold AS.ghost
  obtain ⟨k1, ⟨dn, k2⟩, k4⟩ := ghA_ok T ⟨[v], h', []⟩
  split
  · exact ⟨v, rfl, rfl, hk⟩
  · rename_i b r hbr
    rw [hbr] at k1 k2 k4
    obtain ⟨k5, k6⟩ := k4.get
    have hlen : ((ghA T ⟨[v], h', []⟩).1 ++ b :: r).length = h'.length + (b :: r).length := by rw [List.length_append, k2.len]
    obtain ⟨v2, hv2⟩ : ∃ v2, (ghS T.blks h'.length T.slots [v] []).1 = [v2] := by
      cases hl : (ghS T.blks h'.length T.slots [v] []).1 with
      | nil => rw [hl] at k5; cases k5
      | cons x q => cases q with
        | nil => exact ⟨x, rfl⟩
        | cons y q => rw [hl] at k5; simp at k5
    refine ⟨v2, hv2, rfl, fun E W hh hin => ?_⟩
    obtain ⟨u, hu, hs⟩ := k6 0 v2 (by rw [hv2]; rfl)
    obtain rfl : v = u := by simpa using hu
    refine (hk E W hh hin).mono ?_
    rintro e W' ⟨x, E2, rfl, hx, hh2, ht⟩
    refine ⟨x, E2.gh h'.length, rfl, ?_, gh_holds2 hh2 k1 k2, ⟨ht.agree.trans ((Agree.gh E2 _).mono ht.len) (Nat.le_refl _), by show h.length ≤ ((ghA T ⟨[v], h', []⟩).1 ++ b :: r).length; rw [hlen]; have := ht.len; omega, fun z hz => ht.mine z (gh_mine2 k1 k2 hz), ht.frame, ht.size, ht.os, ht.tape, ht.output⟩⟩
    rcases hx with rfl | ⟨h1, h2⟩
    · exact .inl (hs.1 rfl)
    · obtain ⟨h3, h4⟩ := hs.2 E2 h1
      exact .inr ⟨by show inS ((ghA T ⟨[v], h', []⟩).1 ++ b :: r).length v2 = true; rw [hlen]; exact h3, by rw [h2, h4]⟩
theorem FnOK.tidy {P : Program} {f : FuncId} {args : List V} {h h' : List Blk} {v : V} (hk : FnOK P f args h v h') : FnOK P f args h v (tidyBs h') := by
  intro E W hh hin
  refine (hk E W hh hin).mono ?_
  rintro e W' ⟨x, E2, rfl, hx, hh2, ht⟩
  refine ⟨x, E2, rfl, by rw [tidyBs_len]; exact hx, tidy_holds hh2, ⟨ht.agree, by rw [tidyBs_len]; exact ht.len, fun k hk => ht.mine k ?_, ht.frame, ht.size, ht.os, ht.tape, ht.output⟩⟩
  obtain ⟨b, y, hb, q1, q2, q3⟩ := hk
  obtain ⟨y', hy, rfl⟩ := tidy_get hb
  rw [tidy_mine] at q1
  rw [tidy_live] at q2
  exact ⟨b, y', hy, q1, q2, q3⟩
/-- The answer of a function as an instance of a template. -/
def ansT (T : Tm) (n : Nat) (v : V) (h' : List Blk) : Option (List PV × List (Code × Code)) := T.find n ((⟨[v], tidyBs h', []⟩ : AS).ghost T)
theorem fn_ans {P : Program} {C : Oracle} {L : Loops} {N : Nat} {f : FuncId} {fn : Func} {args : List V} {h h2 : List Blk} {v2 : V} {T : Tm} {ps : List PV} {c : List (Code × Code)} (hC : OracleOk P C) (hm : P.follows .mixedOrders = true) (hf : P.funcs[f]? = some fn) (hL : loopsOk P L)
    (hk : T.ok = true) (he : evalFn P C L N f fn args h (ansT T h.length) = some (ps, c)) (hc : codesOk c) (hat : T.at ps = ⟨[v2], h2, []⟩) : FnOK P f args h v2 h2 := by
  obtain ⟨v1, h1, hk1, hok⟩ := evalFn_ok hC hm hf hL he
  obtain ⟨v3, e1, e2, hok3⟩ := hok.tidy.ghost T _ rfl
  unfold ansT at hk1
  generalize hs : (⟨[v1], tidyBs h1, []⟩ : AS).ghost T = s at hk1 e1 e2 hok3
  obtain ⟨ρ, hs2⟩ := T.find_ok hk1 hc hk
  obtain ⟨st, sh, sm⟩ := s
  dsimp only at e1 e2 hok3
  subst e1; subst e2
  rw [hat] at hs2
  exact hok3.sub hs2
/-! ### slices that came in: not nil, or not known -/
def softB : Blk → Blk
  | .rs _ sz row => .rs false sz row
  | b => b
theorem softB_mine (b : Blk) : (softB b).mine = b.mine := by cases b <;> rfl
theorem softB_live (E : Env) (n : Nat) (b : Blk) : liveAt E n (softB b) = liveAt E n b := by cases b <;> rfl
theorem softB_ok {E : Env} {n b : Nat} {W : World} {x : Blk} (h : BlkOk E n W b x) : BlkOk E n W b (softB x) := by
  cases x
  case rs nn sz row => exact ⟨h.1, h.2.1, h.2.2.1, h.2.2.2.1, fun hi => ⟨(h.2.2.2.2.1 hi).1, rfl⟩, h.2.2.2.2.2⟩
  all_goals exact h
theorem softB_back {E E' : Env} {n m b : Nat} {W W' : World} {x : Blk} (h0 : BlkOk E n W b x) (he : E'.isnil b = E.isnil b) (h : BlkOk E' m W' b (softB x)) : BlkOk E' m W' b x := by
  cases x
  case rs nn sz row => exact ⟨h.1, h.2.1, h.2.2.1, h.2.2.2.1, fun hi => ⟨(h.2.2.2.2.1 hi).1, (h0.2.2.2.2.1 (he ▸ hi)).2⟩, h.2.2.2.2.2⟩
  all_goals exact h
theorem soft_holds {E : Env} {h : List Blk} {W : World} (hh : Holds E h W) : Holds E (h.map softB) W := by
  refine ⟨fun b y hb => ?_, fun b b' y y' hb hb' hm hl hl' he => ?_⟩
  · rw [List.getElem?_map, Option.map_eq_some_iff] at hb
    obtain ⟨x, hx, rfl⟩ := hb
    rw [List.length_map]
    exact softB_ok (hh.ok b x hx)
  · rw [List.getElem?_map, Option.map_eq_some_iff] at hb hb'
    obtain ⟨x, hx, rfl⟩ := hb
    obtain ⟨x', hx', rfl⟩ := hb'
    rw [softB_mine] at hm
    rw [softB_live] at hl hl'
    exact hh.inj b b' x x' hx hx' hm hl hl' he
/-- A contract that does not ask whether a slice that came in is nil serves where it is known not to be. -/
theorem FnOK.hard {P : Program} {f : FuncId} {args : List V} {h0 h1 nb : List Blk} {v : V} (hs : h1.map softB = h0) (hk : FnOK P f args h0 v (h0 ++ nb)) : FnOK P f args h1 v (h1 ++ nb) := by
  have hlen : h0.length = h1.length := by rw [← hs, List.length_map]
  intro E W hh hin
  have hh0 : Holds E h0 W := by rw [← hs]; exact soft_holds hh
  refine (hk E W hh0 (by rw [hlen]; exact hin)).mono ?_
  rintro e W' ⟨x, E', rfl, hx, hh', ht⟩
  have hl2 : (h1 ++ nb).length = (h0 ++ nb).length := by simp [hlen]
  have old : ∀ {b : Nat} {y : Blk}, (h1 ++ nb)[b]? = some y → ∃ y0, (h0 ++ nb)[b]? = some y0 ∧ y0.mine = y.mine ∧ (∀ F, liveAt F b y0 = liveAt F b y) ∧ BlkOk E' (h1 ++ nb).length W' b y := by
    intro b y hb
    rcases Nat.lt_or_ge b h1.length with hlt | hge
    · rw [List.getElem?_append_left hlt] at hb
      have hb0 : h0[b]? = some (softB y) := by rw [← hs, List.getElem?_map, hb]; rfl
      have hb1 : (h0 ++ nb)[b]? = some (softB y) := by rw [List.getElem?_append_left (by omega)]; exact hb0
      refine ⟨softB y, hb1, softB_mine y, fun F => softB_live F b y, ?_⟩
      have := hh'.ok b _ hb1
      rw [← hl2] at this
      exact softB_back (hh.ok b y hb) (ht.agree.isnil b (by omega)) this
    · rw [List.getElem?_append_right hge] at hb
      have hb1 : (h0 ++ nb)[b]? = some y := by rw [List.getElem?_append_right (by omega), hlen]; exact hb
      refine ⟨y, hb1, rfl, fun _ => rfl, ?_⟩
      have := hh'.ok b _ hb1
      rw [← hl2] at this
      exact this
  refine ⟨x, E', rfl, by rw [hl2]; exact hx, ⟨fun b y hb => ?_, fun b b' y y' hb hb' hm hl hl' he => ?_⟩, ⟨by rw [← hlen]; exact ht.agree, by rw [hl2, ← hlen]; exact ht.len, fun k hk2 => ?_, fun k hk2 hn => ht.frame k hk2 fun hm => hn ?_, ht.size, ht.os, ht.tape, ht.output⟩⟩
  · obtain ⟨_, _, _, _, h4⟩ := old hb
    exact h4
  · obtain ⟨z, h1', h2, h3, _⟩ := old hb
    obtain ⟨z', g1, g2, g3, _⟩ := old hb'
    exact hh'.inj b b' z z' h1' g1 (h2.trans hm) ((h3 E').trans hl) ((g3 E').trans hl') he
  · obtain ⟨b, y, hb, hm, hl, he⟩ := hk2
    obtain ⟨z, h1', h2, h3, _⟩ := old hb
    rcases ht.mine k ⟨b, z, h1', h2.trans hm, (h3 E').trans hl, he⟩ with ⟨b2, x2, q1, q2, q3, q4⟩ | hge
    · rw [← hs, List.getElem?_map, Option.map_eq_some_iff] at q1
      obtain ⟨w, hw, rfl⟩ := q1
      rw [softB_mine] at q2
      rw [softB_live] at q3
      exact .inl ⟨b2, w, hw, q2, q3, q4⟩
    · exact .inr hge
  · obtain ⟨b2, x2, q1, q2, q3, q4⟩ := hm
    rw [← hs, List.getElem?_map, Option.map_eq_some_iff] at q1
    obtain ⟨w, hw, rfl⟩ := q1
    rw [softB_mine] at q2
    rw [softB_live] at q3
    exact ⟨b2, w, hw, q2, q3, q4⟩
end Go.Eng

/- ENGINE, PART 14c: summaries of loops at whose head rows are tidied. -/
namespace Go.Eng
open Go
theorem SimC.tidy_pre {P : Program} {n0 : Nat} {rd : Option Nat} {c : Code} {s s' : AS} {e : XE} (h : SimC P n0 rd c s.tidy e s') : SimC P n0 rd c s e s' := by
  intro ro E0 a0 W0 hst0 hro hn0
  have hst1 : StOk E0 s.tidy a0 W0 := ⟨hst0.size, fun i v hi => by
    obtain ⟨x, hx, hv⟩ := hst0.slots i v hi
    exact ⟨x, hx, by simp only [AS.tidy, tidyBs_len]; exact hv⟩, hst0.defers, fun x hx => by
    simp only [AS.tidy, tidyBs_len]; exact hst0.scope x hx, tidy_holds hst0.heap⟩
  refine wpIn_mono (h ro E0 a0 W0 hst1 hro (by simp only [AS.tidy, tidyBs_len]; exact hn0)) ?_
  rintro e' a W ⟨rfl, E, hst, h2⟩
  have back : ∀ k, Mine E0 s.tidy.heap k → Mine E0 s.heap k := by
    rintro k ⟨b, x, hb, q1, q2, q3⟩
    obtain ⟨y, hy, rfl⟩ := tidy_get hb
    rw [tidy_mine] at q1
    rw [tidy_live] at q2
    exact ⟨b, y, hy, q1, q2, q3⟩
  have forth : ∀ k, Mine E0 s.heap k → Mine E0 s.tidy.heap k := by
    rintro k ⟨b, x, hb, q1, q2, q3⟩
    exact ⟨b, tidyB x, by simp only [AS.tidy, tidyBs_eq, List.getElem?_map, hb, Option.map_some], by rw [tidy_mine]; exact q1, by rw [tidy_live]; exact q2, q3⟩
  refine ⟨rfl, E, hst, ⟨h2.agree, h2.len, fun k hk => ?_, fun k hk hm => h2.frame k hk (fun hm' => hm (back k hm')), h2.size, h2.os, h2.tape, h2.output⟩⟩
  rcases h2.mine k hk with h3 | h3
  · exact .inl (back k h3)
  · exact .inr h3
/-- A loop's summary; rows are tidied first. -/
noncomputable def lsumD (n : Nat) (T : Tm) (body : Code) (fin : List PV → Fin) (els : LoopSum) : LoopSum := fun R n0 b s k => match Nat.beq n0 n with
  | true => match T.find n0 (s.tidy.ghost T) with
    | some (ps, c) => some (cond (codesB ((body, b) :: c)) ((fin ps).run k) none)
    | none => els R n0 b s k
  | false => els R n0 b s k
theorem lsumD_ok {P : Program} {n : Nat} {T : Tm} {body : Code} {fin : List PV → Fin} {els : LoopSum} (hk : T.ok = true) (H : ∀ rd ps e s, (fin ps).pick = some (e, s) → SimC P n rd (.loop body) (T.at ps) e s) (he : LoopOk P els) : LoopOk P (lsumD n T body fin els) := by
  intro R n0 b s k r hr
  unfold lsumD at hr
  split at hr
  · rename_i hn
    have hn := Nat.eq_of_beq_eq_true hn
    subst hn
    split at hr
    · rename_i ps c hm
      simp only [Option.some.injEq] at hr
      cases hc : codesB ((body, b) :: c) with
      | false => rw [hc] at hr; cases hr
      | true =>
        rw [hc, cond_true] at hr
        rw [codesB_iff] at hc
        have hb : body = b := hc (body, b) (by simp)
        subst hb
        obtain ⟨e, s1, h1, h2⟩ := Fin.run_ok hr
        obtain ⟨ρ, hs⟩ := T.find_ok hm (fun x hx => hc x (by simp [hx])) hk
        exact ⟨_, _, h2, fun rd => SimC.tidy_pre (SimC.ghost ((H rd ps e s1 h1).pre hs))⟩
    · exact he _ _ _ _ _ _ hr
  · exact he _ _ _ _ _ _ hr
end Go.Eng
