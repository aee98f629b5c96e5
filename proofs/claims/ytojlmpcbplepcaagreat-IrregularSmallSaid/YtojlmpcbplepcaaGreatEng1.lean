/- THE ENGINE, piece 1: an interpreter of the model over abstract values, proved sound. -/
import Derived.Test.YtojlmpcbplepcaaGreatEng0
import Derived.RangeFuncRecord
import Derived.RangeFuncSeq
import Derived.RangeFuncCalls
import Derived.Laws.BytesString
/- ENGINE, PART 6: calls; regions, in order and in whatever order. -/
namespace Go.Eng
open Go

/-- What a call of a function does, over abstract values. -/
def EndsIn (E : Env) (W : World) (h : List Blk) (v : V) (h' : List Blk) (e : Ending) (W' : World) : Prop := ∃ x E', e = .returned x ∧ VR E' h'.length v x ∧ Holds E' h' W' ∧ Trans E h W E' h' W'
def FnOK (P : Program) (f : FuncId) (args : List V) (h : List Blk) (v : V) (h' : List Blk) : Prop :=
  ∀ E W, Holds E h W → inSs h.length args = true → Calls P f (concs E args).toArray W (EndsIn E W h v h')
/-- A round of a range over a function. -/
def RoundOK (P : Program) (b : Nat) (args : List V) (h : List Blk) (v : V) (h' : List Blk) : Prop :=
  ∀ E W, Holds E h W → inSs h.length args = true → b < h.length → YieldAt (fen none) 0 P (E.blk b) (concs E args).toArray W (EndsIn E W h v h')
/-- A function with a Go body. -/
def Enterable (P : Program) (f : FuncId) : Prop := ∃ fn, P.funcs[f]? = some fn ∧ (fn.name == "runtime.NumGoroutine") = false ∧ fn.body.isNone = false

inductive Tgt where
  | fn (f : FuncId)
  | yield (b : Nat)
def TgtOK (P : Program) : Tgt → List V → List Blk → V → List Blk → Prop
  | .fn f, args, h, v, h' => FnOK P f args h v h'
  | .yield b, args, h, v, h' => RoundOK P b args h v h'
def TgtEnt (P : Program) : Tgt → Prop
  | .fn f => Enterable P f
  | .yield _ => True
/-- A call that lays one new block, under whatever number. -/
def BornEnd (E : Env) (W : World) (v : V) (n : Nat) (blk : Blk) (e : Ending) (W' : World) : Prop := ∃ k dl ln cp nl ba, e = .returned (conc (E.one n k dl ln cp nl ba) v) ∧ Keeps W W' ∧ (∀ q, BlkOk (E.one n k dl ln cp nl ba) q W' n blk) ∧
  (liveAt (E.one n k dl ln cp nl ba) n blk = true → W.heap.size ≤ k)
def TgtBorn (P : Program) (t : Tgt) (args : List V) (h : List Blk) (v : V) (rd : List Nat) (n : Nat) (blk : Blk) : Prop := match t with
  | .fn f => (∀ q, n < q → inS q v = true) ∧ ∀ h2, (∀ b ∈ rd, h2[b]? = h[b]?) → ∀ E W, Holds E h2 W → inSs h2.length args = true → Calls P f (concs E args).toArray W (BornEnd E W v n blk)
  | .yield _ => False
abbrev Oracle := (R : Type) → Tgt → List V → List Blk → KOp R → Option R
def OracleOk (P : Program) (C : Oracle) : Prop := ∀ (R : Type) t args h (K : KOp R) r, C R t args h K = some r →
  ∃ v rd eff, K v rd eff = some r ∧ Same h h rd eff ∧ TgtEnt P t ∧ (∀ h2, Same h h2 rd eff → TgtOK P t args h2 v (eff.app h2)) ∧ ∀ n blk, eff = .push n blk → TgtBorn P t args h v rd n blk

section
variable {R : Type} {P : Program} {o : Oper} {ev : Operand → V} {h : List Blk} {K : KOp R} {C : Oracle}

def appV : List V → List V → List V
  | [], m => m
  | v :: r, m => v :: appV r m
theorem appV_eq (l m : List V) : appV l m = l ++ m := by
  induction l with
  | nil => rfl
  | cons v r ih => simp [appV, ih]
def mapEv (ev : Operand → V) : List Operand → List V
  | [] => []
  | x :: r => ev x :: mapEv ev r
theorem mapEv_eq (l : List Operand) : mapEv ev l = l.map ev := by
  induction l with
  | nil => rfl
  | cons v r ih => simp [mapEv, ih]

def aCall (C : Oracle) (f : V) (args : List V) (h : List Blk) (K : KOp R) : Option R := match f with
  | .func fid caps => match noTop args with
    | true => C R (.fn fid) (appV args caps) h K
    | false => none
  | .yield b => match noTop args with
    | true => C R (.yield b) args h K
    | false => none
  | _ => none
theorem concs_append (E : Env) (l m : List V) : concs E (l ++ m) = concs E l ++ concs E m := by simp [concs_eq]
theorem inSs_append (n : Nat) (l m : List V) : inSs n (l ++ m) = (inSs n l && inSs n m) := by simp [inSs_eq]
/-- An operation that lays one new block, under whatever number. -/
def OpBorn (P : Program) (o : Oper) (ev : Operand → V) (h : List Blk) (v : V) (rd : List Nat) (n : Nat) (blk : Blk) : Prop :=
  ∀ h2, (∀ b ∈ rd, h2[b]? = h[b]?) → ∀ (E : Env) (a : Act) (W : World), Holds E h2 W → (∀ z ∈ o.op.operands, VR E h2.length (ev z) (a.eval z)) → n < h2.length → noBlk n blk = true →
    ∀ (next : Act → World → Prop) (Q : Exit → Act → World → Prop), (∀ k dl ln cp nl ba val W', Keeps W W' → BlkOk (E.one n k dl ln cp nl ba) h2.length W' n blk → (liveAt (E.one n k dl ln cp nl ba) n blk = true → W.heap.size ≤ k) →
      VR (E.one n k dl ln cp nl ba) h2.length v val → next (a.put o.dst val) W') → Oper.wpE P o a W next Q
theorem OpBorn.congr {ev' : Operand → V} {h' : List Blk} {v : V} {rd : List Nat} {n : Nat} {blk : Blk} (hb : OpBorn P o ev h v rd n blk) (he : ∀ z ∈ o.op.operands, ev' z = ev z) (hh : ∀ b ∈ rd, h'[b]? = h[b]?) : OpBorn P o ev' h' v rd n blk :=
  fun h2 h3 E a W hH hv hn hc next Q hk => hb h2 (fun b hb => (h3 b hb).trans (hh b hb)) E a W hH (fun z hz => by rw [← he z hz]; exact hv z hz) hn hc next Q hk
theorem ok_callB {c : Call} {fo : Operand} {r : R} (hC : OracleOk P C) (ho : o.op = .call c) (hc : c.callee = .value fo) (hr : aCall C (ev fo) (mapEv ev c.args.toList) h K = some r) :
    ∃ v rd eff, K v rd eff = some r ∧ Same h h rd eff ∧ OpEff P o ev h v rd eff ∧ ∀ n blk, eff = .push n blk → OpBorn P o ev h v rd n blk := by
  have hops : ∀ {E : Env} {n : Nat} {a : Act}, (∀ x ∈ o.op.operands, VR E n (ev x) (a.eval x)) → ∀ x ∈ fo :: c.args.toList, VR E n (ev x) (a.eval x) := fun hv x hx => hv x (by
    rw [ho]
    simp only [Op.operands, Call.operands, hc, Array.mem_append]
    rcases List.mem_cons.1 hx with e | e
    · exact .inl (by simp [e])
    · exact .inr (by simpa using e))
  unfold aCall at hr
  split at hr
  · rename_i fid caps hf
    split at hr
    · rename_i ht
      obtain ⟨v, rd, eff, hk, hs, ⟨fn, hfn, hname, hbody⟩, H, HB⟩ := hC R _ _ _ _ _ hr
      have main : ∀ (E : Env) (a : Act) (W : World) (n0 : Nat), (∀ x ∈ o.op.operands, VR E n0 (ev x) (a.eval x)) → ∀ (next : Act → World → Prop) (Q : Exit → Act → World → Prop) (post : Ending → World → Prop),
          (inSs n0 (mapEv ev c.args.toList ++ caps) = true → Calls P fid (concs E (mapEv ev c.args.toList ++ caps)).toArray W post) → (∀ e W', post e W' → ∃ x, e = .returned x ∧ next (a.put o.dst x) W') → Oper.wpE P o a W next Q := by
        intro E a W n0 hv next Q post HC hnext hd r
        have ht' := ht
        rw [mapEv_eq] at ht'
        have h0 := hops hv fo (by simp)
        rw [hf] at h0
        obtain ⟨e1, e2⟩ := h0.val (by simp)
        obtain ⟨h3, h4⟩ := VRs_map (ev := ev) c.args.toList (fun x hx => hops hv x (by simp [hx])) ht'
        have hargs : c.args.map a.eval = (concs E (c.args.toList.map ev)).toArray := by
          rw [← h4]; apply Array.ext'; simp
        have hrun : (execOp a.eval o).run P W = .ok (.enter fid (concs E (mapEv ev c.args.toList ++ caps)).toArray) W := by
          simp only [execOp, ho, resolve, hc, e1, conc, Deferred.ofValue, Sem.run_bind, Sem.run_pure, Result.andThen_ok, invoke, callFunc, run_program, hfn]
          rw [if_neg (by rw [hname]; simp), if_neg (by rw [hbody]; simp)]
          simp only [Sem.run_pure]
          rw [hargs, concs_append, mapEv_eq]
          simp
        refine ⟨fun _ _ => trivial, ?_⟩
        rw [Oper.semAt_eq _ _ _ hd, hrun]
        simp only [inS] at e2
        have hcall : CallsIn (fen r) 0 P fid (concs E (mapEv ev c.args.toList ++ caps)).toArray W post :=
          callsIn_wide.2 (HC (by rw [inSs_append, mapEv_eq, h3, e2]; rfl))
        refine ⟨fun hx => by simp [fen] at hx, hcall.mono ?_⟩
        intro e W' hp
        obtain ⟨x, rfl, hn⟩ := hnext e W' hp
        exact hn
      refine ⟨v, rd, eff, hk, hs, fun h2 hs2 E a W hh hv next Q hnext => ?_, fun n blk he h2 hs2 E a W hh hv hn hcl next Q hnext => ?_⟩
      · rw [appV_eq] at H
        refine main E a W h2.length hv next Q _ (fun hin => H h2 hs2 E W hh hin) ?_
        rintro e W' ⟨x, E', rfl, hx, hh', ht'⟩
        exact ⟨x, rfl, hnext x E' W' hx hh' ht'⟩
      · have HB' := HB n blk he
        rw [appV_eq] at HB'
        obtain ⟨hq, hB⟩ := HB'
        refine main E a W h2.length hv next Q _ (fun hin => hB h2 hs2 E W hh hin) ?_
        rintro e W' ⟨k, dl, ln, cp, nl, ba, rfl, q1, q2, q3⟩
        exact ⟨_, rfl, hnext k dl ln cp nl ba _ W' q1 (q2 _) q3 (.inr ⟨hq _ hn, rfl⟩)⟩
    · cases hr
  · rename_i b hf
    split at hr
    · rename_i ht
      obtain ⟨v, rd, eff, hk, hs, _, H, HB⟩ := hC R _ _ _ _ _ hr
      refine ⟨v, rd, eff, hk, hs, fun h2 hs2 E a W hh hv next Q hnext hd r => ?_, fun n blk he => (HB n blk he).elim⟩
      rw [mapEv_eq] at ht
      have h0 := hops hv fo (by simp)
      rw [hf] at h0
      obtain ⟨e1, e2⟩ := h0.val (by simp)
      obtain ⟨h3, h4⟩ := VRs_map (ev := ev) c.args.toList (fun x hx => hops hv x (by simp [hx])) ht
      have hargs : c.args.map a.eval = (concs E (c.args.toList.map ev)).toArray := by
        rw [← h4]; apply Array.ext'; simp
      obtain ⟨fn, tmps, assign, body, hy, hR⟩ := H h2 hs2 E W hh (by rw [mapEv_eq]; exact h3) (by simpa [inS] using e2)
      have hrun : (execOp a.eval o).run P W = .ok (.round (E.blk b) fn tmps assign body) W := by
        simp only [execOp, ho, resolve, hc, e1, conc, Deferred.ofValue, Sem.run_bind, Sem.run_pure, Result.andThen_ok, invoke]
        rw [mapEv_eq] at hy
        simp only [hargs, Array.empty_append]
        exact hy
      refine ⟨fun _ _ => trivial, ?_⟩
      rw [Oper.semAt_eq _ _ _ hd, hrun]
      have hround : RoundIn (fen r) 0 P (E.blk b) fn tmps assign body W (EndsIn E W h2 v (eff.app h2)) := hR
      refine ⟨fun hx => by simp [fen] at hx, hround.mono ?_⟩
      rintro e W' ⟨x, E', rfl, hx, hh', ht'⟩
      exact hnext x E' W' hx hh' ht'
    · cases hr
  · cases hr

theorem ok_call {c : Call} {fo : Operand} (hC : OracleOk P C) (ho : o.op = .call c) (hc : c.callee = .value fo) : AopOk P o ev h (aCall C (ev fo) (mapEv ev c.args.toList) h K) K := fun _ hr => by
  obtain ⟨v, rd, eff, h1, h2, h3, _⟩ := ok_callB hC ho hc hr
  exact ⟨v, rd, eff, h1, h2, h3⟩

/-- Builtins on numbers and lengths. -/
def intsV : List V → Option (IntKind × List Int)
  | [] => none
  | [.int k n] => some (k, [n])
  | .int k n :: r => match intsV r with
    | some (k', l) => match decide (k = k') with
      | true => some (k, n :: l)
      | false => none
    | none => none
  | _ => none
def minI (a b : Int) : Int := bif decide (b < a) then b else a
def maxI (a b : Int) : Int := bif decide (b > a) then b else a
def foldI (f : Int → Int → Int) : Int → List Int → Int
  | a, [] => a
  | a, b :: r => foldI f (f a b) r
theorem intsV_ok : ∀ {l : List V} {k : IntKind} {m : List Int}, intsV l = some (k, m) → l = m.map (.int k) ∧ m ≠ []
  | [], _, _, h => by simp [intsV] at h
  | [v], k, m, h => by
    cases v <;> simp [intsV] at h
    obtain ⟨rfl, rfl⟩ := h
    simp
  | v :: u :: r, k, m, h => by
    cases v <;> simp only [intsV] at h <;> try cases h
    rename_i k0 n
    split at h
    · rename_i k' l hl
      split at h
      · rename_i hk
        simp only [decide_eq_true_eq] at hk
        subst hk
        injection h with h
        obtain ⟨rfl, rfl⟩ := Prod.mk.inj h
        obtain ⟨h1, _⟩ := intsV_ok hl
        exact ⟨by simp [h1], by simp⟩
      · cases h
    · cases h
def aMinMax (f : Int → Int → Int) (args : List V) (K : KOp R) : Option R := match intsV args with
  | some (k, n :: l) => K (.int k (foldI f n l)) [] .none
  | _ => none
theorem run_min (k : IntKind) : ∀ (l : List Int) (a : Int) (W : World), ((l.map (Value.int k)).foldlM Builtin.min2 (Value.int k a)).run P W = .ok (.int k (foldI minI a l)) W
  | [], a, W => rfl
  | b :: r, a, W => by
    simp only [List.map_cons, List.foldlM_cons, Builtin.min2, Sem.run_bind, Sem.run_pure, Result.andThen_ok, foldI]
    rw [show (if b < a then b else a) = minI a b by simp [minI, cond_eq_ite]]
    exact run_min k r _ W
theorem run_max (k : IntKind) : ∀ (l : List Int) (a : Int) (W : World), ((l.map (Value.int k)).foldlM Builtin.max2 (Value.int k a)).run P W = .ok (.int k (foldI maxI a l)) W
  | [], a, W => rfl
  | b :: r, a, W => by
    simp only [List.map_cons, List.foldlM_cons, Builtin.max2, Sem.run_bind, Sem.run_pure, Result.andThen_ok, foldI]
    rw [show (if b > a then b else a) = maxI a b by simp [maxI, cond_eq_ite]]
    exact run_max k r _ W
theorem noTop_ints (k : IntKind) (m : List Int) : noTop (m.map (.int k)) = true := by
  induction m with
  | nil => rfl
  | cons n r ih => simp [noTop, ih]
theorem ok_minmax {c : Call} {b : Builtin} (ho : o.op = .call c) (hc : c.callee = .builtin b) (hb : b = .min ∨ b = .max) :
    AopOk P o ev h (aMinMax (match b with | .min => minI | _ => maxI) (mapEv ev c.args.toList) K) K := by
  intro r hr
  unfold aMinMax at hr
  split at hr
  · rename_i k n l hl
    obtain ⟨h1, _⟩ := intsV_ok hl
    rw [mapEv_eq] at h1
    refine pureOk hr fun m E a W hv => ⟨_, VR.mkInt, ?_⟩
    obtain ⟨_, h4⟩ := VRs_map (ev := ev) c.args.toList (fun x hx => hv x (by
      rw [ho]; simp only [Op.operands, Call.operands, hc, Array.mem_append]; exact .inr (by simpa using hx))) (by rw [h1]; exact noTop_ints _ _)
    have hargs : c.args.toList.map a.eval = (n :: l).map (Value.int k) := by
      rw [h4, h1, concs_eq, List.map_map]; rfl
    have hargs' : (c.args.map a.eval).toList = (n :: l).map (Value.int k) := by rw [← hargs]; simp
    rcases hb with rfl | rfl
    · simp only [execOp, ho, resolve, hc, Sem.run_bind, Sem.run_pure, Result.andThen_ok, invoke, builtin, Builtin.min_, hargs', List.map_cons]
      rw [run_min]; rfl
    · simp only [execOp, ho, resolve, hc, Sem.run_bind, Sem.run_pure, Result.andThen_ok, invoke, builtin, Builtin.max_, hargs', List.map_cons]
      rw [run_max]; rfl
  · cases hr

end
end Go.Eng

/- ENGINE, PART 6b: a block that is laid under whatever number, where another one may be given up (an append). -/
namespace Go.Eng
open Go

/-- A slice's row in which no block is named. -/
def bareR : Row → Bool
  | .vs l => inSs 0 l
  | _ => true
theorem bareR_ok {r : Row} (h : bareR r = true) : inSs 0 r.toVs = true := by
  cases r with
  | vs l => exact h
  | ints k l => rw [inSs_eq, List.all_eq_true]; intro v hv; simp only [Row.toVs, List.mem_map] at hv; obtain ⟨x, _, rfl⟩ := hv; rfl
  | strs l => rw [inSs_eq, List.all_eq_true]; intro v hv; simp only [Row.toVs, List.mem_map] at hv; obtain ⟨x, _, rfl⟩ := hv; rfl
def bareB : Blk → Bool
  | .grow _ _ _ r => bareR r
  | _ => false
def killO (kb : Option Nat) (h : List Blk) : List Blk := match kb with
  | some b => setB h b .dead
  | none => h
theorem killO_len (kb : Option Nat) (h : List Blk) : (killO kb h).length = h.length := by
  cases kb with
  | none => rfl
  | some b => exact setB_len _ _ _
theorem killO_get {kb : Option Nat} {h : List Blk} {i : Nat} {x : Blk} (hx : (killO kb h)[i]? = some x) : x = .dead ∨ h[i]? = some x := by
  cases kb with
  | none => exact .inr hx
  | some b =>
    simp only [killO, setB_eq] at hx
    by_cases e : i = b
    · subst e
      have := getElem?_lt hx
      rw [List.length_set] at this
      rw [List.getElem?_set_self this] at hx
      injection hx with hx; exact .inl hx.symm
    · rw [List.getElem?_set_ne (Ne.symm e)] at hx; exact .inr hx
/-- An operation that lays one new block, under whatever number, and may give up another one. -/
def OpBornM (P : Program) (o : Oper) (ev : Operand → V) (h : List Blk) (v : V) (rd : List Nat) (kb : Option Nat) (n : Nat) (blk : Blk) : Prop :=
  ∀ h2, (∀ b ∈ rd, h2[b]? = h[b]?) → (∀ b, kb = some b → h2[b]? = h[b]?) → ∀ (E : Env) (a : Act) (W : World), Holds E h2 W → (∀ z ∈ o.op.operands, VR E h2.length (ev z) (a.eval z)) → n < h2.length → kb ≠ some n → (∀ x ∈ h2, noBlk n x = true) → noBlk n blk = true →
    ∀ (next : Act → World → Prop) (Q : Exit → Act → World → Prop), (∀ E2 k dl ln cp nl ba val W', Agree h2.length E E2 → Holds (E2.one n k dl ln cp nl ba) (setB (killO kb h2) n blk) W' → VR (E2.one n k dl ln cp nl ba) h2.length v val →
      TransN n E h2 W (E2.one n k dl ln cp nl ba) (setB (killO kb h2) n blk) W' → next (a.put o.dst val) W') → Oper.wpE P o a W next Q
section
variable {P : Program} {o : Oper} {ev : Operand → V} {h : List Blk}
theorem OpBornM.congr {ev' : Operand → V} {h' : List Blk} {v : V} {rd : List Nat} {kb : Option Nat} {n : Nat} {blk : Blk} (hb : OpBornM P o ev h v rd kb n blk) (he : ∀ z ∈ o.op.operands, ev' z = ev z) (hh : ∀ b ∈ rd, h'[b]? = h[b]?) (hk : ∀ b, kb = some b → h'[b]? = h[b]?) : OpBornM P o ev' h' v rd kb n blk :=
  fun h2 h3 h4 E a W hH hv hn hne hno hc next Q hnx => hb h2 (fun b hb => (h3 b hb).trans (hh b hb)) (fun b hb => (h4 b hb).trans (hk b hb)) E a W hH (fun z hz => by rw [← he z hz]; exact hv z hz) hn hne hno hc next Q hnx
theorem Holds.birth {E : Env} {h : List Blk} {W W' : World} (hs : Holds E h W) {n : Nat} (hn : ∀ x ∈ h, noBlk n x = true) (hlt : n < h.length) {k dl ln cp : Nat} {nl : Bool} {ba : Option Addr} {blk : Blk} (hW : Keeps W W')
    (hb : BlkOk (E.one n k dl ln cp nl ba) h.length W' n blk) (hf : liveAt (E.one n k dl ln cp nl ba) n blk = true → W.heap.size ≤ k) :
    Holds (E.one n k dl ln cp nl ba) (setB h n blk) W' ∧ TransN n E h W (E.one n k dl ln cp nl ba) (setB h n blk) W' := by
  have e0 : (E.one n k dl ln cp nl ba).blk n = k := if_pos rfl
  have eb : ∀ {b}, b ≠ n → (E.one n k dl ln cp nl ba).blk b = E.blk b := fun hb => if_neg hb
  have cas : ∀ {b x}, (setB h n blk)[b]? = some x → (b = n ∧ x = blk) ∨ (b ≠ n ∧ h[b]? = some x) := fun {b x} hx => by
    rw [setB_eq] at hx
    by_cases e : b = n
    · subst e; rw [List.getElem?_set_self hlt] at hx; injection hx with hx; exact .inl ⟨rfl, hx.symm⟩
    · rw [List.getElem?_set_ne (Ne.symm e)] at hx; exact .inr ⟨e, hx⟩
  refine ⟨⟨fun b x hx => ?_, fun b1 b2 x1 x2 h1 h2 m1 l1 l2 he => ?_⟩, ⟨Agree.one _ _ _ _ _ _ _ _, by rw [setB_len]; omega, fun z hm => ?_, fun z hz _ => hW.block z hz, hW.size, hW.os, hW.tape, hW.output⟩⟩
  · rw [setB_len]
    rcases cas hx with ⟨rfl, rfl⟩ | ⟨hne, hx⟩
    · exact hb
    · exact (hs.ok b x hx).one hne (hn x (List.mem_of_getElem? hx)) (fun o ho => by
        rw [hW.block _ (Array.getElem?_eq_some_iff.1 ho).1]; exact ho)
  · rcases cas h1 with ⟨e1, e2⟩ | ⟨n1, k1⟩ <;> rcases cas h2 with ⟨e3, e4⟩ | ⟨n2, k2⟩
    · rw [e1, e3]
    · subst e1; subst e2
      rw [liveAt_one n2] at l2
      have := (hs.ok b2 x2 k2).lt l2
      have := hf l1
      rw [e0, eb n2] at he
      omega
    · subst e3; subst e4
      rw [liveAt_one n1] at l1
      have := (hs.ok b1 x1 k1).lt l1
      have := hf l2
      rw [e0, eb n1] at he
      omega
    · rw [liveAt_one n1] at l1
      rw [liveAt_one n2] at l2
      rw [eb n1, eb n2] at he
      exact hs.inj _ _ _ _ k1 k2 m1 l1 l2 he
  · obtain ⟨b, x, hx, h1, h2, h3⟩ := hm
    rcases cas hx with ⟨rfl, rfl⟩ | ⟨hne, hx⟩
    · rw [e0] at h3; exact .inr (by have := hf h2; omega)
    · rw [liveAt_one hne] at h2
      rw [eb hne] at h3
      exact .inl ⟨b, x, hx, h1, h2, h3⟩
theorem OpBorn.toM {v : V} {rd : List Nat} {n : Nat} {blk : Blk} (hb : OpBorn P o ev h v rd n blk) : OpBornM P o ev h v rd none n blk := by
  intro h2 h3 _ E a W hH hv hn _ hno hc next Q hk
  refine hb h2 h3 E a W hH hv hn hc next Q fun k dl ln cp nl ba val W' hW hB hf hV => ?_
  obtain ⟨q1, q2⟩ := hH.birth hno hn hW hB hf
  exact hk E k dl ln cp nl ba val W' (Agree.refl _ _) q1 hV q2
theorem VR.scope {E E2 : Env} {m m2 : Nat} {v : V} {x y : Value} (h : VR E m v x) (h2 : VR E2 m2 v y) : VR E2 m v y := by
  rcases h2 with h2 | ⟨_, e⟩
  · exact .inl h2
  · rcases h with h | ⟨s, _⟩
    · exact .inl h
    · exact .inr ⟨s, e⟩
theorem BlkOk.scope {E E2 : Env} {m m2 b : Nat} {W W2 : World} {blk : Blk} (h : BlkOk E m W b blk) (h2 : BlkOk E2 m2 W2 b blk) : BlkOk E2 m W2 b blk := by
  cases blk with
  | dead => trivial
  | defs => exact h2
  | loopB st me tmps ps assign body d =>
    obtain ⟨hd, fn, vs, ⟨hv1, hv2⟩, hc⟩ := h
    obtain ⟨_, fn', vs', ⟨hv1', hv2'⟩, hc'⟩ := h2
    refine ⟨hd, fn', vs', ⟨hv1', fun i v hi => ?_⟩, hc'⟩
    obtain ⟨x, hx, hr⟩ := hv2 i v hi
    obtain ⟨x', hx', hr'⟩ := hv2' i v hi
    exact ⟨x', hx', hr.scope hr'⟩
  | ro row => exact ⟨h.1, h2.2⟩
  | glob g row => exact ⟨h2.1, h2.2.1, h.2.2.1, h2.2.2.2⟩
  | rs nn sz row => exact ⟨h.1, h2.2⟩
  | own ty row => exact ⟨h2.1, h.2.1, h2.2.2⟩
  | grow nn ty sz row => exact ⟨h2.1, h.2.1, h2.2.2⟩
  | lent b0 n0 nn ty sz row => exact ⟨h.1, h.2.1, h.2.2.1, h2.2.2.2⟩
  | raw ty sz m => exact h2
def Env.mv (E : Env) (n N : Nat) : Env := E.one n (E.blk N) (E.delta N) (E.len N) (E.cap N) (E.isnil N) (E.base N)
theorem liveAt_mv {E : Env} {n N : Nat} {blk : Blk} (hb : bareB blk = true) : liveAt (E.mv n N) n blk = liveAt E N blk := by
  cases blk with
  | grow nn ty sz row => simp [liveAt, Env.mv, Env.one]
  | _ => simp [bareB] at hb
theorem concs_bare {E E2 : Env} {l : List V} (h : inSs 0 l = true) : concs E l = concs E2 l := by
  refine concs_agree (n := 0) ⟨?_, ?_, ?_, ?_, ?_, ?_⟩ l h <;> exact fun b hb => absurd hb (Nat.not_lt_zero b)
theorem Holds.move {E E' : Env} {kb : Option Nat} {n : Nat} {blk : Blk} {W W' : World} (hn : n < h.length) (hne : kb ≠ some n) (hno : ∀ x ∈ h, noBlk n x = true) (hb : bareB blk = true) (hE : Holds E h W)
    (hh : Holds E' (killO kb h ++ [blk]) W') (ht : Trans E h W E' (killO kb h ++ [blk]) W') :
    Holds (E'.mv n h.length) (setB (killO kb h) n blk) W' ∧ TransN n E h W (E'.mv n h.length) (setB (killO kb h) n blk) W' := by
  have hN : (killO kb h).length = h.length := killO_len _ _
  have e0 : (E'.mv n h.length).blk n = E'.blk h.length := if_pos rfl
  have eb : ∀ {b}, b ≠ n → (E'.mv n h.length).blk b = E'.blk b := fun hb => if_neg hb
  have hlast : (killO kb h ++ [blk])[h.length]? = some blk := by rw [List.getElem?_append_right (by omega), hN, Nat.sub_self]; rfl
  have cas : ∀ {b x}, (setB (killO kb h) n blk)[b]? = some x → (b = n ∧ x = blk) ∨ (b ≠ n ∧ b < h.length ∧ (killO kb h)[b]? = some x ∧ (killO kb h ++ [blk])[b]? = some x) := fun {b x} hx => by
    rw [setB_eq] at hx
    by_cases e : b = n
    · subst e; rw [List.getElem?_set_self (by omega)] at hx; injection hx with hx; exact .inl ⟨rfl, hx.symm⟩
    · rw [List.getElem?_set_ne (Ne.symm e)] at hx
      have := getElem?_lt hx
      exact .inr ⟨e, by omega, hx, by rw [List.getElem?_append_left this]; exact hx⟩
  have nox : ∀ {b x}, (killO kb h)[b]? = some x → noBlk n x = true := fun {b x} hx => by
    rcases killO_get hx with rfl | hx
    · rfl
    · exact hno x (List.mem_of_getElem? hx)
  refine ⟨⟨fun b x hx => ?_, fun b1 b2 x1 x2 h1 h2 m1 l1 l2 he => ?_⟩, ⟨?_, by rw [setB_len]; omega, fun z hm => ?_, ht.frame, ht.size, ht.os, ht.tape, ht.output⟩⟩
  · rw [setB_len, hN]
    rcases cas hx with ⟨rfl, rfl⟩ | ⟨hbn, hlt, hx1, hx2⟩
    · have hq := hh.ok _ _ hlast
      cases x with
      | grow nn ty sz row =>
        have hb : inSs 0 row.toVs = true := bareR_ok hb
        obtain ⟨q1, q2, q3, q4, q5, q6, q7⟩ := hq
        refine ⟨?_, inSs_mono (Nat.zero_le _) _ hb, q3, ?_, ?_, fun hx => ?_, fun hx => ?_⟩
        · simp only [Env.mv, Env.one, if_true]; exact q1
        · simp only [Env.mv, Env.one, if_true]; exact q4
        · simp only [Env.mv, Env.one, if_true]; exact q5
        · simp only [Env.mv, Env.one, if_true] at hx; exact q6 hx
        · simp only [Env.mv, Env.one, if_true] at hx
          obtain ⟨fz, spare, r1, r2, r3⟩ := q7 hx
          refine ⟨fz, spare, r1, ?_, ?_⟩
          · simp only [Env.mv, Env.one, if_true]; exact r2
          · rw [e0, concs_bare (E2 := E') hb]; exact r3
      | _ => simp [bareB] at hb
    · have q := (hh.ok b x hx2).one (k := E'.blk h.length) (dl := E'.delta h.length) (ln := E'.len h.length) (cp := E'.cap h.length) (nl := E'.isnil h.length) (ba := E'.base h.length) hbn (nox hx1) (fun o ho => ho)
      rcases killO_get hx1 with rfl | hx0
      · trivial
      · exact (hE.ok b x hx0).scope q
  · rcases cas h1 with ⟨e1, e2⟩ | ⟨n1, lt1, _, k1⟩ <;> rcases cas h2 with ⟨e3, e4⟩ | ⟨n2, lt2, _, k2⟩
    · rw [e1, e3]
    · exfalso
      subst e1; subst e2
      rw [liveAt_mv hb] at l1
      rw [Env.mv, liveAt_one n2] at l2
      rw [e0, eb n2] at he
      have := hh.inj _ _ _ _ hlast k2 m1 l1 l2 he
      omega
    · exfalso
      subst e3; subst e4
      rw [liveAt_mv hb] at l2
      rw [Env.mv, liveAt_one n1] at l1
      rw [e0, eb n1] at he
      have := hh.inj _ _ _ _ k1 hlast m1 l1 l2 he
      omega
    · rw [Env.mv, liveAt_one n1] at l1
      rw [Env.mv, liveAt_one n2] at l2
      rw [eb n1, eb n2] at he
      exact hh.inj _ _ _ _ k1 k2 m1 l1 l2 he
  · exact (ht.agree.mono (Nat.le_of_lt hn)).trans (Agree.one _ _ _ _ _ _ _ _) (Nat.le_refl _)
  · obtain ⟨b, x, hx, h1, h2, h3⟩ := hm
    rcases cas hx with ⟨rfl, rfl⟩ | ⟨hbn, _, _, hx⟩
    · rw [liveAt_mv hb] at h2
      rw [e0] at h3
      exact ht.mine z ⟨_, _, hlast, h1, h2, h3⟩
    · rw [Env.mv, liveAt_one hbn] at h2
      rw [eb hbn] at h3
      exact ht.mine z ⟨_, _, hx, h1, h2, h3⟩
/-- From what an operation does at each memory: the block that it lays gets another number. -/
theorem OpBornM.of {rd : List Nat} {kb : Option Nat} {n : Nat} {blk : Blk} (hb : bareB blk = true)
    (H : ∀ h2, (∀ b ∈ rd, h2[b]? = h[b]?) → (∀ b, kb = some b → h2[b]? = h[b]?) → OpSem P o ev h2 (.gs h2.length) (killO kb h2 ++ [blk])) : OpBornM P o ev h (.gs n) rd kb n blk := by
  intro h2 h3 h4 E a W hH hv hn hne hno hc next Q hk
  refine H h2 h3 h4 E a W hH hv next Q fun x E' W' hx hh ht => ?_
  obtain ⟨q1, q2⟩ := hH.move hn hne hno hb hh ht
  have hx2 : x = conc E' (.gs h2.length) := by
    rcases hx with hx | ⟨_, hx⟩
    · cases hx
    · exact hx
  refine hk E' _ _ _ _ _ _ x W' ht.agree q1 (.inr ⟨by simp [inS, hn], ?_⟩) q2
  rw [hx2]
  simp [conc, Env.one]
end
end Go.Eng

/- ENGINE, PART 5b: slices: length, making, cutting, appending. -/
namespace Go.Eng
open Go

/-- A new block, of whatever kind. -/
theorem Holds.newBlk {E : Env} {h : List Blk} {W : World} (hh : Holds E h W) (ob : Obj) (len cap : Nat) (blk : Blk)
    (hnew : BlkOk (E.put h.length W.heap.size len cap false) (h.length + 1) (W.alloc ob) h.length blk) :
    Holds (E.put h.length W.heap.size len cap false) (h ++ [blk]) (W.alloc ob) ∧ Trans E h W (E.put h.length W.heap.size len cap false) (h ++ [blk]) (W.alloc ob) := by
  have hE := Agree.put E h.length W.heap.size len cap false
  have hold : ∀ k, k < W.heap.size → (W.alloc ob).heap[k]? = W.heap[k]? := fun k hk => by
    show (W.heap.push _)[k]? = _
    rw [Array.getElem?_push, if_neg (by omega)]
  have e0 : (E.put h.length W.heap.size len cap false).blk h.length = W.heap.size := if_pos rfl
  have hk : Holds (E.put h.length W.heap.size len cap false) h (W.alloc ob) := hh.keep hE hold
  refine ⟨Holds.snoc hk hnew (fun b blk' hb hlv _ _ he => ?_), ⟨hE, by simp, fun k hm => ?_, fun k hk _ => hold k hk, by simp, rfl, rfl, rfl⟩⟩
  · rw [e0, hE.blk _ (getElem?_lt hb)] at he
    rw [liveAt_agree hE (getElem?_lt hb)] at hlv
    have := (hh.ok b blk' hb).lt hlv
    omega
  · rcases hm.snoc with h1 | h1
    · exact .inl (h1.agree hE)
    · rw [e0] at h1; exact .inr (by omega)

section
variable {R : Type} {P : Program} {o : Oper} {ev : Operand → V} {h : List Blk} {K : KOp R}

/-! ### len -/
def aLen (P : Program) (t : TypeId) (x : V) (h : List Blk) (K : KOp R) : Option R := match P.underlying t with
  | some .string => match x with
    | .str s => K (.int .i64 (Int.ofNat (lenS s))) [] .none
    | _ => none
  | some (.array n _) => K (.int .i64 (Int.ofNat n)) [] .none
  | some (.slice _) => match x with
    | .gs b => match sliceRow (getB h b) with
      | some (sz, row) => K (.int .i64 (Int.ofNat (elemsN row.len sz))) [b] .none
      | none => none
    | .view _ _ _ len => K (.int .i64 (Int.ofNat len)) [] .none
    | .aslice _ _ len _ => K (.int .i64 (Int.ofNat len)) [] .none
    | .flat (.slice _ n _) => K (.int .i64 (Int.ofNat n)) [] .none
    | _ => none
  | _ => none
theorem run_len {c : Call} {t : TypeId} {x : Operand} (ho : o.op = .call c) (hc : c.callee = .builtin .len) (hx : c.args = #[x]) (ht : c.argTypes[0]? = some t) {a : Act} {W : World} {n : Nat}
    (hl : (match P.underlying t, a.eval x with
      | some .string, .string s => s.size = n
      | some (.array m _), _ => m = n
      | some (.slice _), .slice _ m _ => m = n
      | _, _ => False)) : (execOp a.eval o).run P W = .ok (.value (.int .i64 n)) W := by
  have hargs : c.args.map a.eval = #[a.eval x] := by rw [hx]; simp
  simp only [execOp, ho, resolve, hc, Sem.run_bind, Sem.run_pure, Result.andThen_ok, invoke, builtin, hargs, Builtin.len_, ht]
  split at hl
  · rename_i s hu hv
    simp [run_underlying hu, hv, hl, goInt]
  · rename_i m e hu
    simp [run_underlying hu, hl, goInt]
  · rename_i e a' m c' hu hv
    simp [run_underlying hu, hv, hl, goInt]
  · exact hl.elim
theorem ok_len {c : Call} {t : TypeId} {x : Operand} (ho : o.op = .call c) (hc : c.callee = .builtin .len) (hx : c.args = #[x]) (ht : c.argTypes[0]? = some t) : AopOk P o ev h (aLen P t (ev x) h K) K := by
  intro r hr
  have hvx : ∀ {n : Nat} {E : Env} {a : Act}, (∀ z ∈ o.op.operands, VR E n (ev z) (a.eval z)) → VR E n (ev x) (a.eval x) := fun hv => hv x (by
    rw [ho]; simp only [Op.operands, Call.operands, hc, hx]; simp)
  unfold aLen at hr
  split at hr
  · rename_i hu
    split at hr
    · rename_i s hs
      refine pureOk hr fun n E a W hv => ⟨_, VR.mkInt, ?_⟩
      have h0 := hvx hv
      rw [hs] at h0
      exact run_len ho hc hx ht (by rw [hu, h0.str]; exact lenS_eq s)
    · cases hr
  · rename_i n e hu
    refine pureOk hr fun n' E a W hv => ⟨_, VR.mkInt, ?_⟩
    exact run_len ho hc hx ht (by rw [hu])
  · rename_i e hu
    split at hr
    · rename_i b hb
      split at hr
      · rename_i sz row hsr
        refine ⟨_, [b], .none, hr, fun _ _ => rfl, fun h2 hs => OpSem.value fun E a W hh hv => ⟨_, VR.mkInt, ?_⟩⟩
        have h0 := hvx hv
        rw [hb] at h0
        have hne : getB h b ≠ .dead := fun e => by rw [e] at hsr; simp [sliceRow] at hsr
        have hb2 : h2[b]? = some (getB h b) := (hs b (by simp)).trans (getB_some rfl hne)
        obtain ⟨_, hz, hl, hcap, hnil, _⟩ := sliceRow_ok hsr (hh.ok b _ hb2)
        rw [elemsN_eq hz hl]
        refine run_len ho hc hx ht ?_
        rw [hu, (h0.val (by simp)).1, conc]
        cases hn : E.isnil b with
        | true =>
          have h1 := hnil hn
          rw [h1] at hl
          have : E.len b = 0 := by
            rcases Nat.mul_eq_zero.1 hl with h | h
            · exact h
            · omega
          simp [this]
        | false => simp
      · cases hr
    · rename_i b l sz len hb
      refine pureOk hr fun n' E a W hv => ⟨_, VR.mkInt, ?_⟩
      have h0 := hvx hv
      rw [hb] at h0
      refine run_len ho hc hx ht ?_
      rw [hu, (h0.val (by simp)).1, conc]
      cases hn : E.isnil b <;> simp
    · rename_i b off len cap hb
      refine pureOk hr fun n' E a W hv => ⟨_, VR.mkInt, ?_⟩
      have h0 := hvx hv
      rw [hb] at h0
      refine run_len ho hc hx ht ?_
      rw [hu, (h0.val (by simp)).1, conc]
    · rename_i ad n cp hb
      refine pureOk hr fun n' E a W hv => ⟨_, VR.mkInt, ?_⟩
      have h0 := hvx hv
      rw [hb] at h0
      refine run_len ho hc hx ht ?_
      rw [hu, (h0.val (by simp)).1, conc]
    · cases hr
  · cases hr

/-! ### literals -/
def fillV (place : Nat → Option (Nat × Nat)) (cells : List V) : List (Nat × V) → Option (List V)
  | [] => some cells
  | (i, v) :: rest => match place i with
    | none => none
    | some (off, size) => match wholeV v && Nat.beq (cellsV v).length size with
      | true => match spliceV cells off (cellsV v) with
        | some m => fillV place m rest
        | none => none
      | false => none
theorem zipIdx_foldl_splice (off : Nat) : ∀ (vs : List Value) (k : Nat) (cs : List Value), off + k + vs.length ≤ cs.length →
    (vs.zipIdx k).foldl (fun (cs : Array Value) (x : Value × Nat) => cs.setIfInBounds (off + x.2) x.1) cs.toArray = (splice cs (off + k) vs).toArray
  | [], k, cs, _ => by simp [splice_nil]
  | v :: r, k, cs, hl => by
    simp only [List.length_cons] at hl
    simp only [List.zipIdx_cons, List.foldl_cons, List.setIfInBounds_toArray]
    rw [zipIdx_foldl_splice off r (k + 1) (cs.set (off + k) v) (by simp; omega), splice_cons _ _ _ _ (by omega), show off + (k + 1) = off + k + 1 by omega]
theorem fill_ok {place : Nat → Option (Nat × Nat)} {E : Env} {n : Nat} {a : Act} : ∀ {parts : List (Nat × Operand)} {cells m : List V}, fillV place cells (parts.map fun x => (x.1, ev x.2)) = some m →
    (∀ x ∈ parts, VR E n (ev x.2) (a.eval x.2)) → inSs n cells = true →
    Instr.fill place (concs E cells).toArray (parts.map fun x => (x.1, a.eval x.2)) = some (concs E m).toArray ∧ inSs n m = true
  | [], cells, m, hf, _, hi => by
    simp only [List.map_nil, fillV, Option.some.injEq] at hf
    subst hf
    exact ⟨rfl, hi⟩
  | (i, x) :: parts, cells, m, hf, hv, hi => by
    simp only [List.map_cons, fillV] at hf
    split at hf
    · cases hf
    · rename_i off size hp
      split at hf
      · rename_i hw
        simp only [Bool.and_eq_true] at hw
        have hsz := Nat.eq_of_beq_eq_true hw.2
        split at hf
        · rename_i m' hm
          obtain ⟨h1, h2⟩ := spliceV_ok hm
          have hne : ev x ≠ .top := fun e => by rw [e] at hw; simp [wholeV] at hw
          obtain ⟨e1, e2⟩ := (hv (i, x) (by simp)).val hne
          have hi' : inSs n m' = true := by
            rw [h2]
            have hcs := cellsV_inS e2
            simp only [inSs_eq, List.all_eq_true] at *
            intro y hy
            simp only [splice, List.mem_append] at hy
            rcases hy with (hy | hy) | hy
            · exact hi y (List.mem_of_mem_take hy)
            · exact hcs y hy
            · exact hi y (List.mem_of_mem_drop hy)
          obtain ⟨h3, h4⟩ := fill_ok hf (fun z hz => hv z (by simp [hz])) hi'
          refine ⟨?_, h4⟩
          have hcl : (a.eval x).cells = (concs E (cellsV (ev x))).toArray := by
            apply Array.ext'; rw [e1]; simp [cellsV_conc hw.1]
          have hlen : (concs E (cellsV (ev x))).length = size := by rw [concs_eq, List.length_map]; exact hsz
          have hlc : (concs E cells).length = cells.length := by rw [concs_eq, List.length_map]
          simp only [List.map_cons, Instr.fill, hp, hcl]
          rw [if_neg (by simp only [List.size_toArray, hlen, hlc]; simp; omega)]
          have hz := zipIdx_foldl_splice off (concs E (cellsV (ev x))) 0 (concs E cells) (by rw [hlen, hlc]; omega)
          rw [Nat.add_zero] at hz
          rw [← h3]
          congr 1
          have : concs E m' = splice (concs E cells) off (concs E (cellsV (ev x))) := by rw [h2, concs_eq, concs_eq, concs_eq, splice_map]
          rw [this, ← hz]
          rw [← Array.foldl_toList]
          simp
        · cases hf
      · cases hf

def partsEv (ev : Operand → V) : List (Nat × Operand) → List (Nat × V)
  | [] => []
  | (i, x) :: r => (i, ev x) :: partsEv ev r
theorem partsEv_eq (l : List (Nat × Operand)) : partsEv ev l = l.map fun x => (x.1, ev x.2) := by
  induction l with
  | nil => rfl
  | cons v r ih => obtain ⟨i, x⟩ := v; simp [partsEv, ih]

def structPlaces (P : Program) : List Field → Option (List (Nat × Nat))
  | [] => some []
  | f :: r => match szT P f.type with
    | some n => match structPlaces P r with
      | some l => some ((f.offset, n) :: l)
      | none => none
    | none => none
theorem run_structPlaces : ∀ {fs : List Field} {l : List (Nat × Nat)}, structPlaces P fs = some l → ∀ W, (fs.mapM fun (f : Field) => (do pure (f.offset, ← sizeOf f.type) : Sem (Nat × Nat))).run P W = .ok l W
  | [], l, h, W => by simp only [structPlaces, Option.some.injEq] at h; subst h; rfl
  | f :: r, l, h, W => by
    simp only [structPlaces] at h
    split at h
    · rename_i n hn
      split at h
      · rename_i l' hl
        injection h with h
        subst h
        simp only [List.mapM_cons, Sem.run_bind, run_szT hn, Result.andThen_ok, Sem.run_pure, run_structPlaces hl W]
      · cases h
    · cases h
def aBuild (P : Program) (t : TypeId) (parts : List (Nat × V)) (K : KOp R) : Option R := match zeroOf P t with
  | none => none
  | some z => match P.underlying t with
    | some (.struct fs) => match structPlaces P fs.toList with
      | some pl => match fillV (fun i => pl[i]?) (zeroCells z) parts with
        | some m => K (.agg m) [] .none
        | none => none
      | none => none
    | some (.array _ e) => match szT P e with
      | some sz => match fillV (fun i => some (i * sz, sz)) (zeroCells z) parts with
        | some m => K (.agg m) [] .none
        | none => none
      | none => none
    | _ => none
theorem ok_build {t : TypeId} {ps : Array (Nat × Operand)} (ho : o.op = .build t ps) : AopOk P o ev h (aBuild P t (partsEv ev ps.toList) K) K := by
  intro r hr
  rw [partsEv_eq] at hr
  have hvp : ∀ {n : Nat} {E : Env} {a : Act}, (∀ z ∈ o.op.operands, VR E n (ev z) (a.eval z)) → ∀ x ∈ ps.toList, VR E n (ev x.2) (a.eval x.2) := fun hv x hx => hv x.2 (by
    rw [ho]; simp only [Op.operands]; simp only [List.mem_toArray, List.mem_map]; exact ⟨x, hx, rfl⟩)
  have hmap : ∀ {a : Act}, (ps.map fun (x : Nat × Operand) => (x.1, a.eval x.2)).toList = ps.toList.map fun x => (x.1, a.eval x.2) := fun {a} => by simp
  unfold aBuild at hr
  split at hr
  · cases hr
  · rename_i z hz
    split at hr
    · rename_i fs hu
      split at hr
      · rename_i pl hpl
        split at hr
        · rename_i m hm
          refine pureOk hr fun n E a W hv => ?_
          obtain ⟨h1, h2⟩ := fill_ok hm (hvp hv) (zeroCells_inS n z)
          rw [zeroCells_eq, Array.toArray_toList] at h1
          refine ⟨conc E (.agg m), VR.of (by simpa [inS] using h2), ?_⟩
          have hpm : (fs.mapM fun (f : Field) => (do pure (f.offset, ← sizeOf f.type) : Sem (Nat × Nat))).run P W = .ok pl.toArray W := by
            have : (fs.mapM fun (f : Field) => (do pure (f.offset, ← sizeOf f.type) : Sem (Nat × Nat))) = List.toArray <$> (fs.toList.mapM fun (f : Field) => (do pure (f.offset, ← sizeOf f.type) : Sem (Nat × Nat))) := by
              rw [← List.mapM_toArray, Array.toArray_toList]
            rw [this, Sem.run_map, run_structPlaces hpl W]
            rfl
          simp only [execOp, ho, Instr.build, Sem.run_bind, run_zeroOf hz, Result.andThen_ok, run_underlying hu, hpm]
          have hf : Instr.fill (fun x => pl.toArray[x]?) z.cells (ps.toList.map fun x => (x.1, a.eval x.2)) = some (concs E m).toArray := by simpa using h1
          rw [show (ps.map fun (x : Nat × Operand) => (x.1, a.eval x.2)).toList = ps.toList.map fun x => (x.1, a.eval x.2) from hmap]
          rw [hf]
          simp [conc]
        · cases hr
      · cases hr
    · rename_i len e hu
      split at hr
      · rename_i sz hsz
        split at hr
        · rename_i m hm
          refine pureOk hr fun n E a W hv => ?_
          obtain ⟨h1, h2⟩ := fill_ok hm (hvp hv) (zeroCells_inS n z)
          rw [zeroCells_eq, Array.toArray_toList] at h1
          refine ⟨conc E (.agg m), VR.of (by simpa [inS] using h2), ?_⟩
          simp only [execOp, ho, Instr.build, Sem.run_bind, run_zeroOf hz, Result.andThen_ok, run_underlying hu, run_szT hsz]
          rw [show (ps.map fun (x : Nat × Operand) => (x.1, a.eval x.2)).toList = ps.toList.map fun x => (x.1, a.eval x.2) from hmap]
          rw [h1]
          simp [conc]
        · cases hr
      · cases hr
    · cases hr

end
end Go.Eng

/- ENGINE, PART 5c: new slices; parts of slices and strings. -/
namespace Go.Eng
open Go
section
variable {R : Type} {P : Program} {o : Oper} {ev : Operand → V} {h : List Blk} {K : KOp R}

/-- An operation that makes a block and hands back the slice over it. -/
theorem newSlice_sem {ty : TypeId} {sz : Nat} {row : Row} {len cap : Nat} (hz : 0 < sz) (hl : len * sz = row.len) (hcap : len ≤ cap)
    (hin : ∀ (n : Nat) (E : Env) (a : Act), (∀ x ∈ o.op.operands, VR E n (ev x) (a.eval x)) → inSs n row.toVs = true)
    (hrun : ∀ (n : Nat) (E : Env) (a : Act) (W : World), (∀ x ∈ o.op.operands, VR E n (ev x) (a.eval x)) → ∃ spare fz, thawed fz (row.len + spare.length) ∧ row.len + spare.length = cap * sz ∧
      (execOp a.eval o).run P W = .ok (.value (.slice (some ⟨W.heap.size, 0, none⟩) len cap)) (W.alloc (.cells (concs E row.toVs ++ spare).toArray ty fz))) :
    OpEff P o ev h (.gs h.length) [] (.push h.length (.grow true ty sz row)) := by
  intro h2 hs E a W hh hv next Q hnext
  obtain ⟨_, hlen⟩ := hs
  obtain ⟨spare, fz, hfz, hsz, hr⟩ := hrun _ E a W hv
  have hE := Agree.put E h2.length W.heap.size len cap false
  have hi := hin _ E a hv
  obtain ⟨h1, h3⟩ := hh.newBlk (.cells (concs E row.toVs ++ spare).toArray ty fz) len cap (.grow true ty sz row) (by
    refine ⟨by simp [Env.put], inSs_mono (Nat.le_succ _) _ hi, hz, by simp [Env.put, hl], by simp [Env.put, hcap], fun h => by simp [Env.put] at h, fun _ => ⟨fz, spare, hfz, by simp [Env.put, hsz], ?_⟩⟩
    rw [concs_agree hE _ hi]
    simp only [Env.put, if_true]
    show (W.heap.push _)[W.heap.size]? = _
    simp)
  refine Oper.wpE_value hr ?_
  rw [hlen] at h1 h3
  refine hnext _ _ _ (.inr ⟨?_, ?_⟩) h1 h3
  · simp [inS, HEff.app, ← hlen]
  · simp [conc, Env.put]

def mulCells : Nat → List V → List V
  | 0, _ => []
  | n + 1, l => appV l (mulCells n l)
def rowOf (z : Value) (n : Nat) : Row := match z with
  | .int k m => .ints k (List.replicate n m)
  | .string s => .strs (List.replicate n s)
  | .agg cs => .vs (mulCells n (cs.toList.map ofScalar))
  | v => .vs (List.replicate n (ofScalar v))
theorem mulCells_len (n : Nat) (l : List V) : (mulCells n l).length = n * l.length := by
  induction n with
  | zero => simp [mulCells]
  | succ n ih => simp [mulCells, appV_eq, ih, Nat.succ_mul, Nat.add_comm]
theorem mulCells_inS {m n : Nat} {l : List V} (h : inSs m l = true) : inSs m (mulCells n l) = true := by
  induction n with
  | zero => rfl
  | succ n ih => rw [mulCells, appV_eq, inSs_append, h, ih]; rfl
theorem rowOf_len {z : Value} {n : Nat} : (rowOf z n).len = n * z.cells.size := by
  cases z <;> simp [rowOf, Row.len, Value.cells, mulCells_len]
theorem rowOf_inS {z : Value} {n m : Nat} : inSs m (rowOf z n).toVs = true := by
  cases z <;> simp only [rowOf, Row.toVs] <;> first
    | exact mulCells_inS (inSs_ofScalar _ _)
    | (rw [inSs_eq, List.all_eq_true]; intro x hx; simp only [List.mem_map, List.mem_replicate] at hx; first | (obtain ⟨y, _, rfl⟩ := hx; simp [inS]) | (obtain ⟨_, rfl⟩ := hx; simp [inS, ofScalar]))
theorem zero_cells (cs : Array Value) : ∀ (n : Nat), cs.size ≠ 0 → ((Array.range (n * cs.size)).map fun i => cs[i % cs.size]!).toList = (List.replicate n cs.toList).flatten
  | 0, _ => by simp
  | n + 1, hne => by
    have ih := zero_cells cs n hne
    rw [List.replicate_succ', List.flatten_append, ← ih]
    simp only [Array.toList_map, Array.toList_range, Nat.succ_mul, List.range_add, List.map_append, List.flatten_cons, List.flatten_nil, List.append_nil, List.map_map]
    congr 1
    apply List.ext_getElem
    · simp
    · intro i h1 h2
      simp at h1
      simp [Nat.add_mod, Nat.mod_eq_of_lt h1, h1]
theorem rowOf_concs (E : Env) (z : Value) (n : Nat) : concs E (rowOf z n).toVs = (List.replicate n z.cells.toList).flatten := by
  have one : ∀ (v : Value) (u : V), conc E u = v → concs E (List.replicate n u) = (List.replicate n [v]).flatten := fun v u hu => by
    induction n with
    | zero => rfl
    | succ n ih => simp [List.replicate_succ, concs, hu, ih]
  have mul : ∀ (l : List V), concs E (mulCells n l) = (List.replicate n (concs E l)).flatten := fun l => by
    clear one
    induction n with
    | zero => rfl
    | succ n ih => simp [mulCells, appV_eq, concs_append, List.replicate_succ, ih]
  cases z <;> simp only [rowOf, Row.toVs, Value.cells, List.map_replicate] <;> first
    | exact one _ _ (by simp [conc])
    | exact one _ _ (by simp [conc, ofScalar])
    | (rw [mul, concs_ofScalar])

def aMake (P : Program) (t : TypeId) (l c : V) (h : List Blk) (K : KOp R) : Option R := match P.underlying t, l, c with
  | some (.slice e), .int _ l, .int _ c => match P.info? e with
    | some i => match i.zero with
      | some z => match Nat.beq z.cells.size i.size && Nat.ble 1 i.size with
        | true => cond (decide (0 ≤ l ∧ l ≤ c ∧ c * (i.bytes + 1) ≤ 140737488355328))
            (K (.gs h.length) [] (.push h.length (.grow true e i.size (rowOf z l.toNat)))) none
        | false => none
      | none => none
    | none => none
  | _, _, _ => none
theorem ok_make {t : TypeId} {l c : Operand} (ho : o.op = .makeSlice t l c) : AopOk P o ev h (aMake P t (ev l) (ev c) h K) K := by
  intro r hr
  unfold aMake at hr
  split at hr
  · rename_i e k1 l' k2 c' hu hl hc
    split at hr
    · rename_i i hi
      split at hr
      · rename_i z hz
        split at hr
        · rename_i hsz
          simp only [Bool.and_eq_true] at hsz
          have hs1 := Nat.eq_of_beq_eq_true hsz.1
          have hs2 := Nat.le_of_ble_eq_true hsz.2
          cases hb : decide (0 ≤ l' ∧ l' ≤ c' ∧ c' * (i.bytes + 1) ≤ 140737488355328) with
          | false => rw [hb, cond_false] at hr; cases hr
          | true =>
            rw [hb, cond_true] at hr
            simp only [decide_eq_true_eq] at hb
            obtain ⟨b1, b2, b3⟩ := hb
            have b4 : c' ≤ 140737488355328 := by
              have h1 : (0 : Int) ≤ c' := by omega
              have h2 : c' * 1 ≤ c' * (i.bytes + 1) := Int.mul_le_mul_of_nonneg_left (by omega) h1
              omega
            have b5 : (i.bytes : Int) * c' ≤ 140737488355328 := by
              have h1 : (0 : Int) ≤ c' := by omega
              have : c' * (i.bytes + 1) = i.bytes * c' + c' := by rw [Int.mul_add, Int.mul_one, Int.mul_comm]
              omega
            refine ⟨_, _, _, hr, ⟨fun _ _ => rfl, rfl⟩, newSlice_sem (len := l'.toNat) (cap := c'.toNat) hs2 (by rw [rowOf_len, hs1]) (by omega) (fun n _ _ _ => rowOf_inS) fun n E a W hv => ?_⟩
            have hvl := hv l (by simp [ho, Op.operands])
            have hvc := hv c (by simp [ho, Op.operands])
            rw [hl] at hvl; rw [hc] at hvc
            refine ⟨(List.replicate (c'.toNat - l'.toNat) z.cells.toList).flatten, (0, 0), fun o ho h => by omega, ?_, ?_⟩
            · rw [rowOf_len, hs1]
              simp only [List.length_flatten, List.map_replicate, List.sum_replicate_nat, Array.length_toList, hs1]
              rw [← Nat.add_mul]
              congr 1
              omega
            · have w1 : IntKind.i64.wrap l' = l' := by
                rw [wr_eq]; simp only [wr, sgn, cond_eq_ite, decide_eq_true_eq]
                rw [Int.emod_eq_of_lt (by omega) (by omega), if_neg (by omega)]
              have w2 : IntKind.i64.wrap c' = c' := by
                rw [wr_eq]; simp only [wr, sgn, cond_eq_ite, decide_eq_true_eq]
                rw [Int.emod_eq_of_lt (by omega) (by omega), if_neg (by omega)]
              have hz' : zeroOf P e = some z := by simp [zeroOf, hi, hz]
              simp only [execOp, ho, hvl.int, hvc.int, Instr.makeSlice, Sem.run_bind, run_underlying hu, Result.andThen_ok, asInt, asIntOf, Sem.run_pure, typeInfo, run_program, hi, w1, w2]
              have q1 : (decide (c' < 0) || decide (↑i.bytes * c' > 2 ^ 48)) = false := by
                simp only [Bool.or_eq_false_iff, decide_eq_false_iff_not]; constructor <;> omega
              have q2 : decide (l' < 0) = false := by simp; omega
              have q3 : decide (l' > c') = false := by simp; omega
              simp only [q1, q2, q3, Bool.or_self, Bool.false_eq_true, if_false]
              simp only [run_askRoom, Result.andThen_ok, Sem.run_bind, run_szT (show szT P e = some i.size by simp [szT, hi])]
              have hcells : ∀ n, n * i.size = c'.toNat * i.size → True := fun _ _ => trivial
              by_cases hn : c'.toNat * i.size = 0
              · have hc0 : c'.toNat = 0 := by
                  rcases Nat.mul_eq_zero.1 hn with h | h
                  · exact h
                  · omega
                have hl0 : l'.toNat = 0 := by omega
                simp only [newRow, hc0, hl0]
                rw [rowOf_concs]
                have hr0 : ∀ (f : Nat → Value), (Array.range 0).map f = #[] := fun f => Array.eq_empty_of_size_eq_zero (by simp)
                simp [hr0]
              · simp only [hn, if_false, Sem.run_bind, run_zeroOf hz', Result.andThen_ok, Sem.run_pure, newRow, run_newObj]
                rw [rowOf_concs, ← List.flatten_append, List.replicate_append_replicate, show l'.toNat + (c'.toNat - l'.toNat) = c'.toNat by omega]
                have hcz := zero_cells z.cells c'.toNat (by omega)
                rw [hs1] at hcz
                rw [show ((Array.range (c'.toNat * i.size)).map fun x => z.cells[x % z.cells.size]!) = (List.replicate c'.toNat z.cells.toList).flatten.toArray by
                  apply Array.ext'; rw [hs1, hcz]]
                simp
        · cases hr
      · cases hr
    · cases hr
  · cases hr

def zerosB (P : Program) (e : TypeId) (n : Nat) : Option (Nat × List V) := match P.info? e with
  | some i => match i.zero with
    | some z => match Nat.beq z.cells.size i.size && Nat.ble 1 i.size && Nat.ble (n * i.size) 16777216 with
      | true => some (i.size, mulCells n (zeroCells z))
      | false => none
    | none => none
  | none => none
theorem flatten_zero (E : Env) (z : Value) (n : Nat) : concs E (mulCells n (zeroCells z)) = (List.replicate n z.cells.toList).flatten := by
  induction n with
  | zero => rfl
  | succ n ih => simp [mulCells, appV_eq, concs_append, List.replicate_succ, ih, zeroCells_eq]
/-- The row of a slice that is laid: eight or more whole numbers are a row of numbers. -/
def rowLong (m : List V) : Row := match m with
  | .int k n :: r => match Nat.ble 7 r.length with
    | true => match allInt k (.int k n :: r) with
      | some ns => .ints k ns
      | none => .vs (.int k n :: r)
    | false => .vs (.int k n :: r)
  | m => .vs m
theorem rowLong_vs (m : List V) : (rowLong m).toVs = m := by
  unfold rowLong
  split
  · split
    · split
      · rename_i ns hs; simp only [Row.toVs]; exact allInt_ok hs
      · rfl
    · rfl
  · rfl
theorem rowLong_len (m : List V) : (rowLong m).len = m.length := by rw [Row.len_eq, rowLong_vs]
def aBuildSlice (P : Program) (t : TypeId) (n : Nat) (parts : List (Nat × V)) (h : List Blk) (K : KOp R) : Option R := match P.underlying t with
  | some (.slice e) => match zerosB P e n with
    | some (sz, zs) => match fillV (fun i => some (i * sz, sz)) zs parts with
      | some m => match Nat.beq m.length (n * sz) with
        | true => K (.gs h.length) [] (.push h.length (.grow true e sz (rowLong m)))
        | false => none
      | none => none
    | none => none
  | _ => none
theorem buildSlice_inv {t : TypeId} {n : Nat} {ps : Array (Nat × Operand)} {r : R} (ho : o.op = .buildSlice t n ps) (hr : aBuildSlice P t n (partsEv ev ps.toList) h K = some r) :
    ∃ e sz m, K (.gs h.length) [] (.push h.length (.grow true e sz (rowLong m))) = some r ∧ 0 < sz ∧ n * sz = m.length ∧ ∀ (q : Nat) (E : Env) (a : Act), (∀ z ∈ o.op.operands, VR E q (ev z) (a.eval z)) → inSs q m = true ∧
      ∀ W : World, (execOp a.eval o).run P W = .ok (.value (.slice (some ⟨W.heap.size, 0, none⟩) n n)) (W.alloc (.cells (concs E m).toArray e)) := by
  rw [partsEv_eq] at hr
  have hvp : ∀ {n : Nat} {E : Env} {a : Act}, (∀ z ∈ o.op.operands, VR E n (ev z) (a.eval z)) → ∀ x ∈ ps.toList, VR E n (ev x.2) (a.eval x.2) := fun hv x hx => hv x.2 (by
    rw [ho]; simp only [Op.operands]; simp only [List.mem_toArray, List.mem_map]; exact ⟨x, hx, rfl⟩)
  unfold aBuildSlice at hr
  split at hr
  · rename_i e hu
    split at hr
    · rename_i sz zs hzb
      split at hr
      · rename_i m hm
        split at hr
        · rename_i hml
          have hml := Nat.eq_of_beq_eq_true hml
          unfold zerosB at hzb
          split at hzb
          · rename_i i hi
            split at hzb
            · rename_i z hz
              split at hzb
              · rename_i hb
                injection hzb with hzb
                obtain ⟨rfl, rfl⟩ := Prod.mk.inj hzb
                simp only [Bool.and_eq_true] at hb
                have hs1 := Nat.eq_of_beq_eq_true hb.1.1
                have hs2 := Nat.le_of_ble_eq_true hb.1.2
                have hs3 := Nat.le_of_ble_eq_true hb.2
                have hz' : zeroOf P e = some z := by simp [zeroOf, hi, hz]
                have hzin : ∀ q, inSs q (mulCells n (zeroCells z)) = true := fun q => mulCells_inS (zeroCells_inS q z)
                refine ⟨_, _, _, hr, hs2, hml.symm, fun q E a hv => ?_⟩
                obtain ⟨h1, h2⟩ := fill_ok hm (hvp hv) (hzin q)
                refine ⟨h2, fun W => ?_⟩
                simp only [execOp, ho, Instr.buildSlice, Sem.run_bind, run_underlying hu, Result.andThen_ok, run_szT (show szT P e = some i.size by simp [szT, hi])]
                rw [if_neg (by omega)]
                rw [flatten_zero] at h1
                have hcells : ∀ (zc : Array Value), (n * i.size = 0 ∨ zc = z.cells) → ((Array.range (n * i.size)).map fun x => zc[x % zc.size]!) = (List.replicate n z.cells.toList).flatten.toArray := fun zc hzc => by
                  by_cases hn : n = 0
                  · subst hn; simp
                  · have : zc = z.cells := by
                      rcases hzc with h | h
                      · rcases Nat.mul_eq_zero.1 h with h | h <;> omega
                      · exact h
                    subst this
                    apply Array.ext'
                    have := zero_cells z.cells n (by omega)
                    rw [hs1] at this ⊢
                    exact this
                have hmap : (ps.map fun (x : Nat × Operand) => (x.1, a.eval x.2)).toList = ps.toList.map fun x => (x.1, a.eval x.2) := by simp
                by_cases hn : n * i.size = 0
                · simp only [hn, if_true, Sem.run_bind, Sem.run_pure, Result.andThen_ok]
                  have hc := hcells #[] (.inl hn)
                  rw [hn] at hc
                  rw [hc, hmap, h1]
                  simp [newRow]
                · simp only [hn, if_false, Sem.run_bind, run_zeroOf hz', Result.andThen_ok, Sem.run_pure]
                  rw [hcells z.cells (.inr rfl), hmap, h1]
                  simp [newRow]
              · cases hzb
            · cases hzb
          · cases hzb
        · cases hr
      · cases hr
    · cases hr
  · cases hr

theorem ok_buildSlice {t : TypeId} {n : Nat} {ps : Array (Nat × Operand)} (ho : o.op = .buildSlice t n ps) : AopOk P o ev h (aBuildSlice P t n (partsEv ev ps.toList) h K) K := by
  intro r hr
  obtain ⟨e, sz, m, hk, hz, hl, hrun⟩ := buildSlice_inv ho hr
  refine ⟨_, _, _, hk, ⟨fun _ _ => rfl, rfl⟩, newSlice_sem (len := n) (cap := n) hz (by rw [rowLong_len]; exact hl) (Nat.le_refl _) (fun q E a hv => by rw [rowLong_vs]; exact (hrun q E a hv).1) fun q E a W hv => ?_⟩
  exact ⟨[], (0, 0), fun o ho h => by omega, by rw [rowLong_len]; simp only [List.length_nil, Nat.add_zero]; omega, by rw [List.append_nil, rowLong_vs]; exact (hrun q E a hv).2 W⟩

end
end Go.Eng

/- ENGINE, PART 5d: parts of slices and strings; append; bytes and strings. -/
namespace Go.Eng
open Go
section
variable {R : Type} {P : Program} {o : Oper} {ev : Operand → V} {h : List Blk} {K : KOp R}

/-! ### cutting -/
def extS (s : ByteArray) (l h : Nat) : ByteArray := ⟨((s.data.toList.drop l).take (h - l)).toArray⟩
theorem extS_eq (s : ByteArray) (l h : Nat) : s.extract l h = extS s l h := by
  apply ByteArray.ext
  simp only [ByteArray.data_extract, extS]
  apply Array.ext'
  simp [List.extract]
def optE (ev : Operand → V) : Option Operand → Option V
  | some x => some (ev x)
  | none => none
def optI (d : Int) : Option V → Option Int
  | none => some d
  | some (.int _ i) => some i
  | _ => none
def bounds (lo hi : Option V) (len cap : Nat) (K : Nat → Nat → Option R) : Option R := match optI 0 lo, optI (Int.ofNat len) hi with
  | some l, some h => cond (decide (0 ≤ l ∧ l ≤ h ∧ h ≤ Int.ofNat cap)) (K l.toNat h.toNat) none
  | _, _ => none
theorem run_bounds {lo hi : Option Operand} {len cap : Nat} {Kb : Nat → Nat → Option R} {r : R} (hr : bounds (optE ev lo) (optE ev hi) len cap Kb = some r) :
    ∃ l h', l ≤ h' ∧ h' ≤ cap ∧ Kb l h' = some r ∧ ∀ (b : Bool) (cap' : Nat), cap ≤ cap' → ∀ (n : Nat) (E : Env) (a : Act) (W : World), (∀ x, lo = some x ∨ hi = some x → VR E n (ev x) (a.eval x)) →
      (Instr.sliceBounds b len cap' (lo.map a.eval) (hi.map a.eval) none).run P W = .ok (l, h', cap') W := by
  unfold bounds at hr
  split at hr
  · rename_i l h' hl hh
    cases hb : decide (0 ≤ l ∧ l ≤ h' ∧ h' ≤ Int.ofNat cap) with
    | false => rw [hb, cond_false] at hr; cases hr
    | true =>
      rw [hb, cond_true] at hr
      simp only [decide_eq_true_eq] at hb
      obtain ⟨b1, b2, b3⟩ := hb
      simp only [Int.ofNat_eq_natCast] at b3
      refine ⟨l.toNat, h'.toNat, by omega, by omega, hr, fun b cap' hc n E a W hv => ?_⟩
      have hH : (match hi.map a.eval with
          | some v => Instr.sliceBound v cap' (if b then .sliceAcap else .sliceAlen)
          | none => pure len : Sem Nat).run P W = .ok h'.toNat W := by
        cases hi with
        | none => simp only [optE, optI, Option.some.injEq] at hh; subst hh; simp
        | some x =>
          simp only [optE] at hh
          cases hx : ev x <;> rw [hx] at hh <;> simp [optI] at hh
          rename_i k i
          subst hh
          have := hv x (.inr rfl)
          rw [hx] at this
          simp only [Option.map_some, this.int, Instr.sliceBound, asIntOf, Sem.run_bind, Sem.run_pure, Result.andThen_ok]
          rw [if_pos ⟨by omega, by omega⟩]
          rfl
      have hL : (match lo.map a.eval with
          | some v => Instr.sliceBound v h'.toNat .sliceB
          | none => pure 0 : Sem Nat).run P W = .ok l.toNat W := by
        cases lo with
        | none => simp only [optE, optI, Option.some.injEq] at hl; subst hl; rfl
        | some x =>
          simp only [optE] at hl
          cases hx : ev x <;> rw [hx] at hl <;> simp [optI] at hl
          rename_i k i
          subst hl
          have := hv x (.inl rfl)
          rw [hx] at this
          simp only [Option.map_some, this.int, Instr.sliceBound, asIntOf, Sem.run_bind, Sem.run_pure, Result.andThen_ok]
          rw [if_pos ⟨by omega, by omega⟩]
          rfl
      unfold Instr.sliceBounds
      cases hi with
      | none =>
        cases lo with
        | none => simp only [Option.map_none] at hH hL ⊢; simp only [Sem.run_bind, Sem.run_pure, Result.andThen_ok] at hH hL ⊢; simp at hH hL; simp [hH, hL]
        | some y => simp only [Option.map_none, Option.map_some] at hH hL ⊢; simp only [Sem.run_bind, Sem.run_pure, Result.andThen_ok] at hH hL ⊢; simp at hH; subst hH; simp [hL]
      | some x =>
        cases lo with
        | none => simp only [Option.map_none, Option.map_some] at hH hL ⊢; simp only [Sem.run_bind, Sem.run_pure, Result.andThen_ok, hH] at hL ⊢; simp at hL; simp [hL]
        | some y => simp only [Option.map_some] at hH hL ⊢; simp [Sem.run_bind, Result.andThen_ok, hH, hL]
  · cases hr

def aSlice (P : Program) (t : TypeId) (x : V) (lo hi mx : Option V) (h : List Blk) (K : KOp R) : Option R := match mx with
  | some _ => none
  | none => match P.underlying t with
    | some .string => match x with
      | .str s => bounds lo hi (lenS s) (lenS s) (fun l h' => K (.str (extS s l h')) [] .none)
      | _ => none
    | some (.slice e) => match szT P e with
      | some sz => match x with
        | .gs b => match lo, hi with
          | none, none => K (.gs b) [] .none
          | _, _ => match sliceRow (getB h b) with
            | some (sz', row) => match Nat.beq sz' sz with
              | true => bounds lo hi (elemsN row.len sz) (elemsN row.len sz) (fun l h' => K (.view b l sz (h' - l)) [b] .none)
              | false => none
            | none => none
        | .view b l0 sz' len => match Nat.beq sz' sz, lo with
          | true, none => match sliceRow (getB h b) with
            | some (sz2, row) => match Nat.beq sz2 sz with
              | true => cond (decide (l0 + len ≤ elemsN row.len sz)) (bounds none hi len len (fun _ h' => K (.view b l0 sz h') [b] .none)) none
              | false => none
            | none => none
          | _, _ => none
        | .flat (.slice ba 0 0) => bounds lo hi 0 0 (fun _ _ => K (.flat (.slice ba 0 0)) [] .none)
        | _ => none
      | none => none
    | some (.array n e) => match szT P e, x with
      | some sz, .ptr b off => bounds lo hi n n (fun l h' => K (.aslice b (bif Nat.beq n l then off else addS off (mulS l sz)) (h' - l) (n - l)) [] .none)
      | _, _ => none
    | _ => none
theorem ok_slice {t : TypeId} {x : Operand} {lo hi mx : Option Operand} (ho : o.op = .slice t x lo hi mx) : AopOk P o ev h (aSlice P t (ev x) (optE ev lo) (optE ev hi) (optE ev mx) h K) K := by
  intro r hr
  have hvx : ∀ {n : Nat} {E : Env} {a : Act}, (∀ z ∈ o.op.operands, VR E n (ev z) (a.eval z)) → VR E n (ev x) (a.eval x) := fun hv => hv x (by
    rw [ho]; simp only [Op.operands]; simp)
  have hvb : ∀ {n : Nat} {E : Env} {a : Act}, (∀ z ∈ o.op.operands, VR E n (ev z) (a.eval z)) → ∀ y, lo = some y ∨ hi = some y → VR E n (ev y) (a.eval y) := fun hv y hy => hv y (by
    rw [ho]; simp only [Op.operands]; rcases hy with rfl | rfl <;> simp)
  unfold aSlice at hr
  split at hr
  · cases hr
  · rename_i hmx
    have hm : mx = none := by cases mx <;> simp [optE] at hmx; rfl
    subst hm
    split at hr
    · rename_i hu
      split at hr
      · rename_i s hx
        obtain ⟨l, h', h1, h2, hk, H⟩ := run_bounds (P := P) hr
        refine pureOk hk fun n E a W hv => ⟨_, VR.mkStr, ?_⟩
        have h0 := hvx hv
        rw [hx] at h0
        have hb := H false (lenS s) (Nat.le_refl _) n E a W (hvb hv)
        simp only [execOp, ho, h0.str, Instr.sliceAt, Sem.run_bind, run_underlying hu, Result.andThen_ok, Instr.slice, Option.map_none]
        simp only [Option.isSome_none, Bool.false_eq_true, if_false, Sem.run_bind, Sem.run_pure, Result.andThen_ok, lenS_eq, hb]
        simp [extS_eq]
      · cases hr
    · rename_i e hu
      split at hr
      · rename_i sz hsz
        split at hr
        · rename_i b hx
          split at hr
          · rename_i hlo hhi
            have hl : lo = none := by cases lo <;> simp [optE] at hlo; rfl
            have hh : hi = none := by cases hi <;> simp [optE] at hhi; rfl
            subst hl; subst hh
            refine pureOk hr fun n E a W hv => ?_
            have h0 := hvx hv
            rw [hx] at h0
            obtain ⟨e1, e2⟩ := h0.val (by simp)
            refine ⟨conc E (.gs b), VR.of e2, ?_⟩
            have ha0 : ∀ (ad : Addr), ad.add (0 * sz) = ad := fun ad => by simp [Addr.add]
            simp only [execOp, ho, e1, conc, Instr.sliceAt, Sem.run_bind, run_underlying hu, Result.andThen_ok, Option.map_none]
            cases hn : E.isnil b with
            | true =>
              simp only [cond_true, Instr.slice, Sem.run_bind, run_underlying hu, Result.andThen_ok, Instr.sliceBounds, Sem.run_pure, run_szT hsz]
              simp
            | false =>
              simp only [cond_false, Instr.slice, Sem.run_bind, run_underlying hu, Result.andThen_ok, Instr.sliceBounds, Sem.run_pure, run_szT hsz, Option.map_some, ha0]
              simp
          · split at hr
            · rename_i sz' row hsr
              split at hr
              · rename_i hsz2
                have := Nat.eq_of_beq_eq_true hsz2
                subst this
                obtain ⟨l, h', h1, h2, hk, H⟩ := run_bounds (P := P) hr
                refine ⟨_, [b], .none, hk, fun _ _ => rfl, fun hp hs => OpSem.value fun E a W hh hv => ?_⟩
                have hne : getB h b ≠ .dead := fun e => by rw [e] at hsr; simp [sliceRow] at hsr
                have hb2 : hp[b]? = some (getB h b) := (hs b (by simp)).trans (getB_some rfl hne)
                obtain ⟨_, hz, hl, hcap, hnil, _⟩ := sliceRow_ok hsr (hh.ok b _ hb2)
                rw [elemsN_eq hz hl] at h2 H
                have h0 := hvx hv
                rw [hx] at h0
                obtain ⟨e1, e2⟩ := h0.val (by simp)
                refine ⟨conc E (.view b l sz' (h' - l)), VR.of (by simpa [inS] using e2), ?_⟩
                simp only [execOp, ho, e1, conc, Instr.sliceAt, Sem.run_bind, run_underlying hu, Result.andThen_ok, Option.map_none]
                cases hn : E.isnil b with
                | true =>
                  have h3 := hnil hn
                  rw [h3] at hl
                  have hl0 : E.len b = 0 := by
                    rcases Nat.mul_eq_zero.1 hl with h | h
                    · exact h
                    · omega
                  rw [hl0] at h2 H
                  have hbd := H true 0 (Nat.le_refl _) _ E a W (hvb hv)
                  have : h' = 0 := by omega
                  subst this
                  have : l = 0 := by omega
                  subst this
                  simp only [cond_true, Instr.slice, Sem.run_bind, run_underlying hu, Result.andThen_ok, hbd, Sem.run_pure, run_szT hsz]
                  simp
                | false =>
                  have hbd := H true (E.cap b) hcap _ E a W (hvb hv)
                  simp only [cond_false, Instr.slice, Sem.run_bind, run_underlying hu, Result.andThen_ok, hbd, Sem.run_pure, run_szT hsz, Option.map_some, Addr_add_lit]
                  split <;> rfl
              · cases hr
            · cases hr
        · rename_i b l0 sz' len hx
          split at hr
          · rename_i hsz1 hlo
            have hl : lo = none := by cases lo <;> simp [optE] at hlo; rfl
            subst hl
            have := Nat.eq_of_beq_eq_true hsz1
            subst this
            split at hr
            · rename_i sz2 row hsr
              split at hr
              · rename_i hsz2
                have := Nat.eq_of_beq_eq_true hsz2
                subst this
                cases hcd : decide (l0 + len ≤ elemsN row.len sz2) with
                | false => rw [hcd, cond_false] at hr; cases hr
                | true =>
                  rw [hcd, cond_true] at hr
                  simp only [decide_eq_true_eq] at hcd
                  obtain ⟨l, h', h1, h2, hk, H⟩ := run_bounds (P := P) (ev := ev) (lo := none) hr
                  refine ⟨_, [b], .none, hk, fun _ _ => rfl, fun hp hs => OpSem.value fun E a W hh hv => ?_⟩
                  have hne : getB h b ≠ .dead := fun e => by rw [e] at hsr; simp [sliceRow] at hsr
                  have hb2 : hp[b]? = some (getB h b) := (hs b (by simp)).trans (getB_some rfl hne)
                  obtain ⟨_, hz, hl, hcap, hnil, _⟩ := sliceRow_ok hsr (hh.ok b _ hb2)
                  rw [elemsN_eq hz hl] at hcd
                  have h0 := hvx hv
                  rw [hx] at h0
                  obtain ⟨e1, e2⟩ := h0.val (by simp)
                  refine ⟨conc E (.view b l0 sz2 h'), VR.of (by simpa [inS] using e2), ?_⟩
                  have hl00 : l = 0 := by
                    have hbd := H true len (Nat.le_refl _) _ E a W (fun y hy => hvb hv y (by simpa using hy))
                    unfold bounds at hr
                    cases hh' : optI (Int.ofNat len) (optE ev hi) with
                    | none => rw [hh'] at hr; simp [optI] at hr
                    | some q =>
                      cases hi with
                      | none => simp [Instr.sliceBounds] at hbd; omega
                      | some y =>
                        simp only [Option.map_none, Option.map_some, Instr.sliceBounds, Sem.run_bind, Sem.run_pure, Result.andThen_ok] at hbd
                        generalize (Instr.sliceBound (a.eval y) len _).run P W = rr at hbd
                        cases rr with
                        | ok v w => simp at hbd; omega
                        | halt _ _ => simp at hbd
                  subst hl00
                  simp only [execOp, ho, e1, conc, Instr.sliceAt, Sem.run_bind, run_underlying hu, Result.andThen_ok, Option.map_none]
                  cases hn : E.isnil b with
                  | true =>
                    have h3 := hnil hn
                    rw [h3] at hl
                    have hl0 : E.len b = 0 := by
                      rcases Nat.mul_eq_zero.1 hl with h | h
                      · exact h
                      · omega
                    have hlen0 : len = 0 := by omega
                    subst hlen0
                    have hbd := H true 0 (Nat.le_refl _) _ E a W (fun y hy => hvb hv y (by simpa using hy))
                    simp only [Option.map_none] at hbd
                    have : h' = 0 := by omega
                    subst this
                    simp only [cond_true, Instr.slice, Sem.run_bind, run_underlying hu, Result.andThen_ok, hbd, Sem.run_pure, run_szT hsz]
                    simp
                  | false =>
                    have hbd := H true (E.cap b - l0) (by omega) _ E a W (fun y hy => hvb hv y (by simpa using hy))
                    simp only [Option.map_none] at hbd
                    have ha0 : ∀ (ad : Addr), ad.add (0 * sz2) = ad := fun ad => by simp [Addr.add]
                    simp only [cond_false, Instr.slice, Sem.run_bind, run_underlying hu, Result.andThen_ok, hbd, Sem.run_pure, run_szT hsz, Option.map_some, ha0]
                    simp
              · cases hr
            · cases hr
          · cases hr
        · rename_i ba hx
          obtain ⟨l, h', h1, h2, hk, H⟩ := run_bounds (P := P) hr
          refine pureOk hk fun q E a W hv => ⟨.slice ba 0 0, .inr ⟨rfl, rfl⟩, ?_⟩
          have h0 := hvx hv
          rw [hx] at h0
          have e1 := (h0.val (by simp)).1
          have hbd := H true 0 (Nat.le_refl _) q E a W (hvb hv)
          have l0 : l = 0 := by omega
          have l1 : h' = 0 := by omega
          subst l0; subst l1
          simp only [execOp, ho, e1, conc, Instr.sliceAt, Sem.run_bind, run_underlying hu, Result.andThen_ok, Option.map_none, Instr.slice, hbd, Sem.run_pure, run_szT hsz]
          simp
        · cases hr
      · cases hr
    · rename_i n e hu
      split at hr
      · rename_i sz b off hsz hx
        obtain ⟨l, h', h1, h2, hk, H⟩ := run_bounds (P := P) hr
        refine pureOk hk fun q E a W hv => ?_
        have h0 := hvx hv
        rw [hx] at h0
        obtain ⟨e1, e2⟩ := h0.val (by simp)
        refine ⟨conc E (.aslice b (bif Nat.beq n l then off else addS off (mulS l sz)) (h' - l) (n - l)), VR.of (by simpa [inS] using e2), ?_⟩
        have hbd := H false n (Nat.le_refl _) q E a W (hvb hv)
        simp only [execOp, ho, e1, conc, Instr.sliceAt, Sem.run_bind, run_underlying hu, Result.andThen_ok, Option.map_none, Instr.sureAddr, Sem.run_pure, hbd, run_szT hsz, Addr_add_lit, addS_eq, mulS_eq]
        by_cases hnl : n = l
        · subst hnl; simp
        · have : Nat.beq n l = false := by
            cases hbb : Nat.beq n l with
            | false => rfl
            | true => exact absurd (Nat.eq_of_beq_eq_true hbb) hnl
          rw [this]
          simp [hnl, Nat.add_assoc]
      · cases hr
    · cases hr

end
end Go.Eng

/- ENGINE, PART 5e: append; bytes and strings. -/
namespace Go.Eng
open Go

/-! ### rows put together -/
def intsVs (k : IntKind) : List V → Option (List Int)
  | [] => some []
  | .int k' n :: r => match decide (k = k') with
    | true => match intsVs k r with
      | some l => some (n :: l)
      | none => none
    | false => none
  | _ => none
theorem intsVs_ok {k : IntKind} : ∀ {l : List V} {m : List Int}, intsVs k l = some m → l = m.map (.int k)
  | [], m, h => by simp [intsVs] at h; subst h; rfl
  | v :: r, m, h => by
    cases v <;> simp only [intsVs] at h <;> try cases h
    split at h
    · rename_i hk
      simp only [decide_eq_true_eq] at hk
      subst hk
      split at h
      · rename_i l hl
        injection h with h
        subst h
        simp [intsVs_ok hl]
      · cases h
    · cases h
def strsVs : List V → Option (List ByteArray)
  | [] => some []
  | .str s :: r => match strsVs r with
    | some l => some (s :: l)
    | none => none
  | _ => none
theorem strsVs_ok : ∀ {l : List V} {m : List ByteArray}, strsVs l = some m → l = m.map .str
  | [], m, h => by simp [strsVs] at h; subst h; rfl
  | v :: r, m, h => by
    cases v <;> simp only [strsVs] at h <;> try cases h
    split at h
    · rename_i l hl
      injection h with h
      subst h
      simp [strsVs_ok hl]
    · cases h
/-- A row of whole numbers, or of strings, as such. -/
def tidyR : Row → Row
  | .vs l => match l with
    | .int k n :: q => match intsVs k (.int k n :: q) with
      | some z => .ints k z
      | none => .vs l
    | .str b :: q => match strsVs (.str b :: q) with
      | some z => .strs z
      | none => .vs l
    | l => .vs l
  | r => r
theorem tidyR_ok (r : Row) : (tidyR r).toVs = r.toVs := by
  cases r with
  | vs l =>
    cases l with
    | nil => rfl
    | cons v q =>
      cases v <;> try rfl
      · simp only [tidyR]
        split
        · rename_i z hz; simp only [Row.toVs]; rw [← intsVs_ok hz]
        · rfl
      · simp only [tidyR]
        split
        · rename_i z hz; simp only [Row.toVs]; rw [← strsVs_ok hz]
        · rfl
  | _ => rfl
def rowApp : Row → Row → Option Row
  | .vs [], r => some (tidyR r)
  | .vs (v :: a), .vs b => some (.vs (appV (v :: a) b))
  | .vs (v :: a), .ints k b => match intsVs k (v :: a) with
    | some l => some (.ints k (l ++ b))
    | none => none
  | .vs (v :: a), .strs b => match strsVs (v :: a) with
    | some l => some (.strs (l ++ b))
    | none => none
  | .ints k a, .ints k' b => match decide (k = k') with
    | true => some (.ints k (a ++ b))
    | false => none
  | .ints k a, .vs b => match intsVs k b with
    | some l => some (.ints k (a ++ l))
    | none => none
  | .strs a, .strs b => some (.strs (a ++ b))
  | .strs a, .vs b => match strsVs b with
    | some l => some (.strs (a ++ l))
    | none => none
  | _, _ => none
theorem rowApp_ok {a b r : Row} (h : rowApp a b = some r) : r.toVs = a.toVs ++ b.toVs := by
  unfold rowApp at h
  split at h
  · injection h with h; subst h; rw [tidyR_ok]; rfl
  · injection h with h; subst h; simp [Row.toVs, appV_eq]
  · split at h
    · rename_i l hl; injection h with h; subst h; simp only [Row.toVs, List.map_append]; rw [← intsVs_ok hl]
    · cases h
  · split at h
    · rename_i l hl; injection h with h; subst h; simp only [Row.toVs, List.map_append]; rw [← strsVs_ok hl]
    · cases h
  · split at h
    · rename_i hk; simp only [decide_eq_true_eq] at hk; subst hk; injection h with h; subst h; simp [Row.toVs]
    · cases h
  · split at h
    · rename_i l hl; injection h with h; subst h; simp only [Row.toVs, List.map_append]; rw [← intsVs_ok hl]
    · cases h
  · injection h with h; subst h; simp [Row.toVs]
  · split at h
    · rename_i l hl; injection h with h; subst h; simp only [Row.toVs, List.map_append]; rw [← strsVs_ok hl]
    · cases h
  · cases h

def allOne : List V → Bool
  | [] => true
  | v :: r => oneV v && allOne r
theorem allOne_mem : ∀ {l : List V}, allOne l = true → ∀ v ∈ l, oneV v = true
  | [], _, v, hv => by cases hv
  | u :: r, h, v, hv => by
    simp only [allOne, Bool.and_eq_true] at h
    rcases List.mem_cons.1 hv with rfl | hv
    · exact h.1
    · exact allOne_mem h.2 v hv
def rowOne : Row → Bool
  | .vs l => allOne l
  | _ => true
theorem rowOne_conc {E : Env} {row : Row} (h : rowOne row = true) : ∀ v ∈ concs E row.toVs, v.oneCell' = true := fun v hv => by
  rw [concs_eq] at hv
  obtain ⟨u, hu, rfl⟩ := List.mem_map.1 hv
  refine oneV_conc ?_
  cases row with
  | vs l => exact allOne_mem h u hu
  | ints k l => simp only [Row.toVs, List.mem_map] at hu; obtain ⟨n, _, rfl⟩ := hu; rfl
  | strs l => simp only [Row.toVs, List.mem_map] at hu; obtain ⟨n, _, rfl⟩ := hu; rfl

/-- A part of a row. -/
def rowSub (row : Row) (a n : Nat) : Option Row := match row with
  | .vs l => match takeV l a n with
    | some m => some (.vs m)
    | none => none
  | .ints k l => some (.ints k ((l.drop a).take n))
  | .strs l => some (.strs ((l.drop a).take n))
theorem rowSub_ok {row r : Row} {a n : Nat} (h : rowSub row a n = some r) : r.toVs = (row.toVs.drop a).take n := by
  unfold rowSub at h
  split at h
  · split at h
    · rename_i l m hm; injection h with h; subst h; exact (takeV_eq hm).2
    · cases h
  · injection h with h; subst h; simp [Row.toVs, List.map_take, List.map_drop]
  · injection h with h; subst h; simp [Row.toVs, List.map_take, List.map_drop]

def bytesI (s : ByteArray) : List Int := s.data.toList.map fun b => (b.toNat : Int)

section
variable {R : Type} {P : Program} {o : Oper} {ev : Operand → V} {h : List Blk} {K : KOp R}

/-- The cells of a slice or a string that is read as a whole. -/
def srcK (x : V) (sz : Nat) (h : List Blk) (K : Row → Option R) : Option R := match x with
  | .gs b => match sliceRow (getB h b) with
    | some (sz', row) => match Nat.beq sz' sz with
      | true => K row
      | false => none
    | none => none
  | .view b l sz2 len => match sliceRow (getB h b) with
    | some (sz', row) => match Nat.beq sz' sz && Nat.beq sz2 sz with
      | true => cond (decide (l + len ≤ elemsN row.len sz)) (match rowSub row (mulS l sz) (mulS len sz) with
          | some r => K r
          | none => none) none
      | false => none
    | none => none
  | .aslice b off len _ => match getB h b with
    | .own _ row => match rowSub row off (mulS len sz) with
      | some r => cond (decide (off + mulS len sz ≤ row.len)) (K r) none
      | none => none
    | _ => none
  | .flat (.slice _ 0 0) => K (.vs [])
  | .str s => match Nat.beq sz 1 with
    | true => K (.ints .u8 (bytesI s))
    | false => none
  | _ => none
theorem srcK_ok {x : V} {sz : Nat} {Ks : Row → Option R} {r : R} (hsz : 0 < sz) (hr : srcK x sz h Ks = some r) : ∃ row, Ks row = some r ∧
    ∀ (E : Env) (W : World), Holds E h W → ∀ y, VR E h.length x y → inSs h.length row.toVs = true ∧ ∃ n, n * sz = row.toVs.length ∧ (∀ W0, (Builtin.lenOf y).run P W0 = .ok n W0) ∧
      (∀ W', Holds E h W' → (Builtin.firstCells sz n y).run P W' = .ok (concs E row.toVs).toArray W') := by
  have loadOk : ∀ {E : Env} {W : World} {ad : Addr} {l : List V}, (∀ j v, l[j]? = some v → W.cell? (ad.add j) = some (conc E v)) → (loadCells ad l.length).run P W = .ok (concs E l).toArray W := fun {E W ad l} hc => by
    have := run_loadCells_list (P := P) W ad (concs E l) (fun j v hv => by
      rw [concs_eq, List.getElem?_map] at hv
      cases hj : l[j]? with
      | none => rw [hj] at hv; cases hv
      | some u => rw [hj] at hv; injection hv with hv; rw [← hv]; exact hc j u hj)
    rwa [concs_eq, List.length_map, ← concs_eq] at this
  unfold srcK at hr
  split at hr
  · rename_i b
    split at hr
    · rename_i sz' row hsr
      split at hr
      · rename_i hq
        have := Nat.eq_of_beq_eq_true hq
        subst this
        refine ⟨row, hr, fun E W hh y hy => ?_⟩
        have hne : getB h b ≠ .dead := fun e => by rw [e] at hsr; simp [sliceRow] at hsr
        have hb := getB_some rfl hne
        obtain ⟨hrow, hz, hl, hcap, hnil, _⟩ := sliceRow_ok hsr (hh.ok b _ hb)
        have hin : inSs h.length row.toVs = true := by
          rw [inSs_eq, List.all_eq_true]
          intro v hv
          obtain ⟨i, hi⟩ := List.getElem?_of_mem hv
          exact (hh.cell hb (by rw [hrow]; exact hi)).2
        rw [Row.len_eq] at hl hnil
        refine ⟨hin, E.len b, hl, fun W0 => ?_, fun W' hh' => ?_⟩
        · rw [(hy.val (by simp)).1, conc]
          cases hn : E.isnil b with
          | true =>
            have h3 := hnil hn
            rw [h3] at hl
            have : E.len b = 0 := by
              rcases Nat.mul_eq_zero.1 hl with h | h
              · exact h
              · omega
            simp [Builtin.lenOf, this]
          | false => simp [Builtin.lenOf]
        · rw [(hy.val (by simp)).1, conc]
          cases hn : E.isnil b with
          | true =>
            have h3 := hnil hn
            have h4 : row.toVs = [] := List.eq_nil_of_length_eq_zero h3
            rw [h3] at hl
            have : E.len b = 0 := by
              rcases Nat.mul_eq_zero.1 hl with h | h
              · exact h
              · omega
            rw [this, h4]
            simp only [cond_true]
            cases E.base b <;> simp [Builtin.firstCells, concs, loadCells, loadCellsFrom]
          | false =>
            simp only [cond_false, Builtin.firstCells]
            rw [hl]
            exact loadOk fun j v hj => by
              rw [Addr_add_lit]
              exact (hh'.cell hb (by rw [hrow]; exact hj)).1
      · cases hr
    · cases hr
  · rename_i b l sz2 len
    split at hr
    · rename_i sz' row hsr
      split at hr
      · rename_i hq
        simp only [Bool.and_eq_true] at hq
        have q1 := Nat.eq_of_beq_eq_true hq.1
        have q2 := Nat.eq_of_beq_eq_true hq.2
        subst q1
        subst q2
        cases hcd : decide (l + len ≤ elemsN row.len sz2) with
        | false => rw [hcd, cond_false] at hr; cases hr
        | true =>
          rw [hcd, cond_true] at hr
          simp only [decide_eq_true_eq] at hcd
          split at hr
          · rename_i rr hrr
            have hsub := rowSub_ok hrr
            rw [mulS_eq, mulS_eq] at hsub
            refine ⟨rr, hr, fun E W hh y hy => ?_⟩
            have hne : getB h b ≠ .dead := fun e => by rw [e] at hsr; simp [sliceRow] at hsr
            have hb := getB_some rfl hne
            obtain ⟨hrow, hz, hl, hcap, hnil, _⟩ := sliceRow_ok hsr (hh.ok b _ hb)
            rw [elemsN_eq hz hl] at hcd
            rw [Row.len_eq] at hl hnil
            have hfit : l * sz2 + len * sz2 ≤ row.toVs.length := by rw [← hl, ← Nat.add_mul]; exact Nat.mul_le_mul_right _ hcd
            have hlen : rr.toVs.length = len * sz2 := by rw [hsub]; simp; omega
            have hget : ∀ j v, rr.toVs[j]? = some v → row.toVs[l * sz2 + j]? = some v := fun j v hj => by
              rw [hsub, List.getElem?_take] at hj
              split at hj
              · rw [List.getElem?_drop] at hj; exact hj
              · cases hj
            have hin : inSs h.length rr.toVs = true := by
              rw [inSs_eq, List.all_eq_true]
              intro v hv
              obtain ⟨i, hi⟩ := List.getElem?_of_mem hv
              exact (hh.cell hb (by rw [hrow]; exact hget i v hi)).2
            refine ⟨hin, len, hlen.symm, fun W0 => ?_, fun W' hh' => ?_⟩
            · rw [(hy.val (by simp)).1, conc]
              cases hn : E.isnil b <;> simp [Builtin.lenOf]
            · rw [(hy.val (by simp)).1, conc]
              by_cases hl0 : len = 0
              · subst hl0
                have h4 : rr.toVs = [] := List.eq_nil_of_length_eq_zero (by rw [hlen]; simp)
                rw [h4]
                cases hn : E.isnil b with
                | true => simp only [cond_true]; cases E.base b <;> simp [Builtin.firstCells, concs, loadCells, loadCellsFrom]
                | false => simp only [cond_false, Builtin.firstCells]; simp [concs, loadCells, loadCellsFrom]
              · have hn : E.isnil b = false := by
                  cases hxx : E.isnil b with
                  | false => rfl
                  | true =>
                    have h3 := hnil hxx
                    rw [h3] at hl
                    have : E.len b = 0 := by
                      rcases Nat.mul_eq_zero.1 hl with h | h
                      · exact h
                      · omega
                    omega
                have hcl : ¬ E.cap b = l := by omega
                simp only [hn, cond_false, if_neg hcl, Builtin.firstCells]
                rw [← hlen]
                exact loadOk fun j v hj => by
                  rw [Addr_add_lit, Nat.add_assoc]
                  exact (hh'.cell hb (by rw [hrow]; exact hget j v hj)).1
          · cases hr
      · cases hr
    · cases hr
  · rename_i b off len cap
    split at hr
    · rename_i ty row hblk
      split at hr
      · rename_i rr hrr
        cases hcd : decide (off + mulS len sz ≤ row.len) with
        | false => rw [hcd, cond_false] at hr; cases hr
        | true =>
          rw [hcd, cond_true] at hr
          simp only [decide_eq_true_eq, mulS_eq] at hcd
          have hsub := rowSub_ok hrr
          rw [mulS_eq] at hsub
          refine ⟨rr, hr, fun E W hh y hy => ?_⟩
          have hb := getB_some hblk (by simp)
          rw [Row.len_eq] at hcd
          have hlen : rr.toVs.length = len * sz := by rw [hsub]; simp; omega
          have hget : ∀ j v, rr.toVs[j]? = some v → row.toVs[off + j]? = some v := fun j v hj => by
            rw [hsub, List.getElem?_take] at hj
            split at hj
            · rw [List.getElem?_drop] at hj; exact hj
            · cases hj
          have hin : inSs h.length rr.toVs = true := by
            rw [inSs_eq, List.all_eq_true]
            intro v hv
            obtain ⟨i, hi⟩ := List.getElem?_of_mem hv
            exact (hh.cell hb (hget i v hi)).2
          refine ⟨hin, len, hlen.symm, fun W0 => ?_, fun W' hh' => ?_⟩
          · rw [(hy.val (by simp)).1, conc]; simp [Builtin.lenOf]
          · rw [(hy.val (by simp)).1, conc]
            simp only [Builtin.firstCells]
            rw [← hlen]
            exact loadOk fun j v hj => by
              rw [Addr_add_lit, Nat.add_assoc]
              exact (hh'.cell hb (hget j v hj)).1
      · cases hr
    · cases hr
  · rename_i ba
    refine ⟨.vs [], hr, fun E W hh y hy => ⟨rfl, 0, by simp [Row.toVs], fun W0 => ?_, fun W' _ => ?_⟩⟩
    · rw [(hy.val (by simp)).1, conc]; simp [Builtin.lenOf]
    · rw [(hy.val (by simp)).1, conc]
      cases ba <;> simp [Builtin.firstCells, Row.toVs, concs, loadCells, loadCellsFrom]
  · rename_i s
    split at hr
    · rename_i hq
      have := Nat.eq_of_beq_eq_true hq
      subst this
      refine ⟨_, hr, fun E W hh y hy => ⟨?_, s.size, ?_, fun W0 => ?_, fun W' _ => ?_⟩⟩
      · rw [inSs_eq, List.all_eq_true]; intro v hv; simp only [Row.toVs, List.mem_map] at hv; obtain ⟨n, _, rfl⟩ := hv; simp [inS]
      · simp [Row.toVs, bytesI]
      · rw [hy.str]; simp [Builtin.lenOf]
      · rw [hy.str]
        simp only [Builtin.firstCells, Sem.run_pure]
        congr 1
        rw [extS_eq]
        apply Array.ext'
        simp only [extS, List.drop_zero, Nat.sub_zero, Row.toVs, bytesI, concs_eq, List.map_map]
        rw [lenS_eq, lenS, List.take_length]
        simp [conc, Function.comp_def]
    · cases hr
  · cases hr

/-! ### append -/
theorem growBy_le (need : Nat) : ∀ (r c : Nat), c < need → Builtin.growBy need r c ≤ 2 * need + 512
  | 0, c, h => by simp [Builtin.growBy]; omega
  | r + 1, c, h => by
    simp only [Builtin.growBy]
    rw [if_neg (by omega)]
    by_cases h2 : c + (c + 768) / 4 < need
    · exact growBy_le need r _ h2
    · have : Builtin.growBy need r (c + (c + 768) / 4) = c + (c + 768) / 4 := by
        cases r with
        | zero => rfl
        | succ r => simp only [Builtin.growBy]; rw [if_pos (by omega)]
      rw [this]; omega
theorem nextslicecap_le {need cap : Nat} (h : cap < need) : Builtin.nextslicecap need cap ≤ 2 * need + 512 := by
  unfold Builtin.nextslicecap
  split
  · omega
  · split
    · omega
    · exact growBy_le need 4 cap h

def Env.putA (E : Env) (n k len cap : Nat) (nil : Bool) (ba : Option Addr) : Env :=
  { blk := fun b => if b = n then k else E.blk b, delta := fun b => if b = n then 0 else E.delta b, len := fun b => if b = n then len else E.len b,
    cap := fun b => if b = n then cap else E.cap b, isnil := fun b => if b = n then nil else E.isnil b, base := fun b => if b = n then ba else E.base b }
theorem Agree.putA (E : Env) (n k len cap : Nat) (nil : Bool) (ba : Option Addr) : Agree n E (E.putA n k len cap nil ba) :=
  ⟨fun b hb => if_neg (by omega), fun b hb => if_neg (by omega), fun b hb => if_neg (by omega), fun b hb => if_neg (by omega), fun b hb => if_neg (by omega), fun b hb => if_neg (by omega)⟩

/-- What is appended to: a row of ours, or nothing yet. -/
inductive Dest (E : Env) (h : List Blk) (e sz : Nat) (row : Row) : Bool → V → List Blk → Prop
  | nil (ba : Option Addr) : row = .vs [] → Dest E h e sz row false (.flat (.slice ba 0 0)) h
  | own (b : Nat) (nn : Bool) : h[b]? = some (.grow nn e sz row) → Dest E h e sz row nn (.gs b) (setB h b .dead)
def destOf (x : V) (e sz : Nat) (h : List Blk) : Option (Bool × Row × List Blk) := match x with
  | .flat (.slice _ 0 0) => some (false, .vs [], h)
  | .gs b => match getB h b with
    | .grow nn e' sz' row => match Nat.beq e' e && Nat.beq sz' sz with
      | true => some (nn, row, setB h b .dead)
      | false => none
    | _ => none
  | _ => none
theorem destOf_ok {x : V} {e sz : Nat} {row : Row} {h' : List Blk} {nn : Bool} (hd : destOf x e sz h = some (nn, row, h')) (E : Env) : Dest E h e sz row nn x h' := by
  unfold destOf at hd
  split at hd
  · simp only [Option.some.injEq, Prod.mk.injEq] at hd; obtain ⟨rfl, rfl, rfl⟩ := hd; exact .nil _ rfl
  · rename_i b
    split at hd
    · rename_i nn' e' sz' row' hb
      split at hd
      · rename_i hq
        simp only [Bool.and_eq_true] at hq
        have q1 := Nat.eq_of_beq_eq_true hq.1
        have q2 := Nat.eq_of_beq_eq_true hq.2
        subst q1; subst q2
        simp only [Option.some.injEq, Prod.mk.injEq] at hd
        obtain ⟨rfl, rfl, rfl⟩ := hd
        exact .own b _ (getB_some hb (by simp))
      · cases hd
    · cases hd
  · cases hd

def aAppendA (P : Program) (t u : TypeId) (s x : V) (h : List Blk) (K : KOp R) : Option R := match P.underlying t with
  | some (.slice e) => match P.info? e with
    | some i => match i.zero with
      | some z => match Nat.beq z.cells.size i.size && Nat.ble 1 i.size && Nat.ble i.bytes 1048576 with
        | true => match P.underlying u with
          | some (.int _) => none
          | some _ => match destOf s e i.size h with
            | some (nn, row, h') => srcK x i.size h (fun row2 => match rowApp row row2, rowOne row2 with
              | some row', true => cond (decide (elemsN row'.len i.size * (i.bytes + 1) ≤ 70368744177664))
                  (K (.gs h.length) [] (.all (appB h' (.grow nn e i.size row')))) none
              | _, _ => none)
            | none => none
          | none => none
        | false => none
      | none => none
    | none => none
  | _ => none
where appB (l : List Blk) (b : Blk) : List Blk := match l with
  | [] => [b]
  | x :: r => x :: appB r b
theorem appB_eq (l : List Blk) (b : Blk) : aAppendA.appB l b = l ++ [b] := by
  induction l with
  | nil => rfl
  | cons x r ih => simp [aAppendA.appB, ih]

theorem Holds.snocA {E : Env} {h1 : List Blk} {W : World} (hh : Holds E h1 W) (k len cap : Nat) (nil : Bool) (ba : Option Addr) {nn : Bool} {e sz : Nat} {row : Row}
    (hnew : BlkOk (E.putA h1.length k len cap nil ba) (h1.length + 1) W h1.length (.grow nn e sz row)) (hk : nil = false → ∀ b x, h1[b]? = some x → liveAt E b x = true → E.blk b ≠ k) :
    Holds (E.putA h1.length k len cap nil ba) (h1 ++ [.grow nn e sz row]) W := by
  have hE := Agree.putA E h1.length k len cap nil ba
  refine Holds.snoc (hh.keep hE fun _ _ => rfl) hnew (fun b x hb hl hl' _ he => ?_)
  have hn : nil = false := by simpa [liveAt, Env.putA] using hl'
  rw [hE.blk _ (getElem?_lt hb)] at he
  rw [liveAt_agree hE (getElem?_lt hb)] at hl
  exact hk hn b x hb hl (by simpa [Env.putA] using he)
theorem Holds.other {E : Env} {h1 : List Blk} {W W' : World} {k0 : Nat} (hh : Holds E h1 W) (hk : ∀ b x, h1[b]? = some x → liveAt E b x = true → E.blk b ≠ k0) (hW : ∀ k, k ≠ k0 → W'.heap[k]? = W.heap[k]?) : Holds E h1 W' := by
  refine ⟨fun b x hb => ?_, hh.inj⟩
  cases hl : liveAt E b x with
  | true => exact (hh.ok b x hb).frame (getElem?_lt hb) (Agree.refl _ _) (Nat.le_refl _) (fun o ho => by rw [hW _ (hk b x hb hl)]; exact ho)
  | false => exact (hh.ok b x hb).absent (getElem?_lt hb) (Agree.refl _ _) (Nat.le_refl _) hl
theorem kill_live {E : Env} {h : List Blk} {W : World} (hh : Holds E h W) {b : Nat} {blk : Blk} (hb : h[b]? = some blk) (hm : blk.mine = true) (hl : liveAt E b blk = true) :
    ∀ b' x, (setB h b .dead)[b']? = some x → liveAt E b' x = true → E.blk b' ≠ E.blk b := fun b' x hx hlx he => by
  rw [setB_eq] at hx
  by_cases hbb : b' = b
  · subst hbb
    rw [List.getElem?_set_self (getElem?_lt hb)] at hx
    injection hx with hx
    subst hx
    simp [liveAt] at hlx
  · rw [List.getElem?_set_ne (Ne.symm hbb)] at hx
    exact hbb (hh.inj b b' blk x hb hx hm hl hlx he.symm).symm
theorem model_zero_size (z : Array Value) (n : Nat) : (Builtin.zeroCells z n).size = n * z.size := by simp [Builtin.zeroCells]

theorem app_none {E : Env} {hx h' : List Blk} {W : World} (hk : Holds E h' W ∧ Trans E hx W E h' W) (hlen : h'.length = hx.length) {e sz : Nat} (hz : 0 < sz) {row' : Row} (hr : row'.toVs = []) (ba : Option Addr) :
    Holds (E.putA h'.length 0 0 0 true ba) (h' ++ [.grow false e sz row']) W ∧ Trans E hx W (E.putA h'.length 0 0 0 true ba) (h' ++ [.grow false e sz row']) W := by
  have hr0 : row'.len = 0 := by rw [Row.len_eq, hr]; rfl
  have hE := Agree.putA E h'.length 0 0 0 true ba
  refine ⟨hk.1.snocA _ _ _ _ _ ⟨by simp [Env.putA], by rw [hr]; rfl, hz, by simp [Env.putA, hr0], by simp [Env.putA], fun _ => ⟨hr0, rfl⟩, fun hf => ?_⟩ (fun hf => by cases hf), ?_⟩
  · simp [Env.putA] at hf
  · refine ⟨by rw [← hlen]; exact hE, by simp; omega, fun k hkm => ?_, fun _ _ _ => rfl, Nat.le_refl _, rfl, rfl, rfl⟩
    obtain ⟨b, x, hb1, hm1, hl1, he1⟩ := hkm
    rcases getElem?_snoc hb1 with hb1 | ⟨q1, q2⟩
    · have hlt := getElem?_lt hb1
      rw [liveAt_agree hE hlt] at hl1
      rw [hE.blk _ hlt] at he1
      exact hk.2.mine k ⟨b, x, hb1, hm1, hl1, he1⟩
    · subst q1; subst q2; simp [liveAt, Env.putA] at hl1

theorem app_fit {E : Env} {hx : List Blk} {W : World} (hh : Holds E hx W) {b e sz n : Nat} {nn : Bool} {row row2 row' : Row} (hbk : hx[b]? = some (.grow nn e sz row)) (hnn : E.isnil b = false)
    (hvs : row'.toVs = row.toVs ++ row2.toVs) (hn : n * sz = row2.toVs.length) (hfit : E.len b + n ≤ E.cap b) (hone : ∀ v ∈ concs E row2.toVs, v.oneCell' = true) (hin : inSs hx.length row'.toVs = true) :
    ∃ W', (storeCells ⟨E.blk b, E.delta b + E.len b * sz, none⟩ (concs E row2.toVs)).run P W = .ok () W' ∧
      Holds (E.putA hx.length (E.blk b) (E.len b + n) (E.cap b) false none) (setB hx b .dead ++ [.grow nn e sz row']) W' ∧
      Trans E hx W (E.putA hx.length (E.blk b) (E.len b + n) (E.cap b) false none) (setB hx b .dead ++ [.grow nn e sz row']) W' := by
  obtain ⟨hd0, hs0, hz0, hl0, hc0, hnil0, hcells⟩ := hh.ok b _ hbk
  obtain ⟨fz, spare, hfz, hsp, hcc⟩ := hcells hnn
  rw [Row.len_eq] at hl0 hfz hsp
  have hlb : liveAt E b (.grow nn e sz row) = true := by simp [liveAt, hnn]
  have hc2 : (concs E row2.toVs).length = n * sz := by rw [concs_eq, List.length_map, hn]
  have hcr : (concs E row.toVs).length = E.len b * sz := by rw [concs_eq, List.length_map, hl0]
  have hroom : E.len b * sz + n * sz ≤ (concs E row.toVs ++ spare).length := by
    rw [List.length_append, hcr, ← Nat.add_mul]
    have : (E.len b + n) * sz ≤ E.cap b * sz := Nat.mul_le_mul_right _ hfit
    rw [← hsp, ← hl0] at this
    exact this
  have hroom' : n * sz ≤ spare.length := by rw [List.length_append, hcr] at hroom; omega
  have hstore := run_storeCells_any (P := P) (E.blk b) (E.len b * sz) e fz (concs E row2.toVs) 0 (concs E row.toVs ++ spare) W hcc
    (fun k hk => hfz k (by rw [hc2] at hk; rw [← hl0]; omega)) (by rw [hc2]; omega) hone
  have hsplice : splice (concs E row.toVs ++ spare) (E.len b * sz + 0) (concs E row2.toVs) = concs E row'.toVs ++ spare.drop (n * sz) := by
    unfold splice
    rw [Nat.add_zero, ← hcr, List.take_left', hvs, concs_append, hc2]
    · rw [List.drop_append, List.drop_eq_nil_of_le (by omega)]
      simp
    · rfl
  rw [hsplice] at hstore
  have hkill := hh.kill b
  have hlive := kill_live hh hbk rfl hlb
  have hother : Holds E (setB hx b .dead) (World.putObj W (E.blk b) (.cells (concs E row'.toVs ++ spare.drop (n * sz)).toArray e fz)) :=
    hkill.1.other hlive (fun k hk => putObj_get (Ne.symm hk))
  have hlenk : (setB hx b .dead).length = hx.length := setB_len _ _ _
  have hrl : row'.len = (E.len b + n) * sz := by rw [Row.len_eq, hvs, List.length_append, ← hl0, ← hn, Nat.add_mul]
  have hE : Agree hx.length E (E.putA hx.length (E.blk b) (E.len b + n) (E.cap b) false none) := Agree.putA _ _ _ _ _ _ _
  refine ⟨_, by rw [hd0, Nat.zero_add]; exact hstore, ?_, ?_⟩
  · have := hother.snocA (E.blk b) (E.len b + n) (E.cap b) false none (nn := nn) (e := e) (sz := sz) (row := row') (by
      rw [hlenk]
      refine ⟨by simp [Env.putA], inSs_mono (Nat.le_succ _) _ hin, hz0, by simp [Env.putA, hrl], by simp [Env.putA, hfit], fun h => by simp [Env.putA] at h, fun _ => ⟨fz, spare.drop (n * sz), fun k hk => hfz k ?_, ?_, ?_⟩⟩
      · rw [hrl, List.length_drop] at hk; rw [← hl0]; rw [Nat.add_mul] at hk; omega
      · simp only [Env.putA, if_true]; rw [hrl, List.length_drop, ← hsp, ← hl0, Nat.add_mul]; omega
      · simp only [Env.putA, if_true]
        rw [putObj_self (Array.getElem?_eq_some_iff.1 hcc).1]
        congr 3
        congr 1
        exact (concs_agree hE _ hin).symm) (fun _ b' x hb' hl' => hlive b' x hb' hl')
    rwa [hlenk] at this
  · refine ⟨hE, by rw [List.length_append, hlenk]; omega, fun k hkm => ?_, fun k hk hn => ?_, by simp, rfl, rfl, rfl⟩
    · obtain ⟨b', x, hb1, hm1, hl1, he1⟩ := hkm
      rcases getElem?_snoc hb1 with hb1 | ⟨q1, q2⟩
      · have hlt := getElem?_lt hb1
        rw [hlenk] at hlt
        rw [liveAt_agree hE hlt] at hl1
        rw [hE.blk _ hlt] at he1
        exact hkill.2.mine k ⟨b', x, hb1, hm1, hl1, he1⟩
      · rw [hlenk] at q1
        subst q1
        simp only [Env.putA, if_true] at he1
        exact .inl ⟨b, _, hbk, rfl, hlb, he1⟩
    · exact putObj_get (fun he => hn ⟨b, _, hbk, rfl, hlb, he⟩)

theorem app_grow {E : Env} {hx h' : List Blk} {W : World} (hk : Holds E h' W ∧ Trans E hx W E h' W) (hlen : h'.length = hx.length) {e sz need cap : Nat} (hz : 0 < sz) {row' : Row} (nn : Bool) (hrl : need * sz = row'.len) (hcap : need ≤ cap)
    (hin : inSs hx.length row'.toVs = true) (rest : List Value) (hrest : rest.length = (cap - need) * sz) :
    Holds (E.putA h'.length W.heap.size need cap false none) (h' ++ [.grow nn e sz row']) (W.drew.alloc (.cells (concs E row'.toVs ++ rest).toArray e)) ∧
    Trans E hx W (E.putA h'.length W.heap.size need cap false none) (h' ++ [.grow nn e sz row']) (W.drew.alloc (.cells (concs E row'.toVs ++ rest).toArray e)) := by
  have hE := Agree.putA E h'.length W.heap.size need cap false none
  have hold : ∀ k, k < W.heap.size → (W.drew.alloc (.cells (concs E row'.toVs ++ rest).toArray e)).heap[k]? = W.heap[k]? := fun k hk => by
    show (W.heap.push _)[k]? = _
    rw [Array.getElem?_push, if_neg (by omega)]
  have hk1 : Holds E h' (W.drew.alloc (.cells (concs E row'.toVs ++ rest).toArray e)) := hk.1.keep (Agree.refl _ _) hold
  refine ⟨hk1.snocA _ _ _ _ _ ⟨by simp [Env.putA], by rw [hlen]; exact inSs_mono (Nat.le_succ _) _ hin, hz, by simp [Env.putA, hrl], by simp [Env.putA, hcap], fun h => by simp [Env.putA] at h, fun _ => ⟨(0, 0), rest, fun o _ hx => Nat.not_lt_zero _ hx.2, ?_, ?_⟩⟩ (fun _ b x hb hl => ?_), ?_⟩
  · simp only [Env.putA, if_true]; rw [hrest, ← hrl, ← Nat.add_mul]; congr 1; omega
  · rw [show concs (E.putA h'.length W.heap.size need cap false none) row'.toVs = concs E row'.toVs from concs_agree hE _ (by rw [hlen]; exact hin)]
    simp only [Env.putA, if_true]
    show (W.heap.push _)[W.heap.size]? = _
    simp
  · have := (hk.1.ok b x hb).lt hl; omega
  · refine ⟨by rw [← hlen]; exact hE, by rw [List.length_append, hlen]; omega, fun k hkm => ?_, fun k hk _ => hold k hk, by simp, rfl, rfl, rfl⟩
    obtain ⟨b', x, hb1, hm1, hl1, he1⟩ := hkm
    rcases getElem?_snoc hb1 with hb1 | ⟨q1, q2⟩
    · have hlt := getElem?_lt hb1
      rw [liveAt_agree hE hlt] at hl1
      rw [hE.blk _ hlt] at he1
      exact hk.2.mine k ⟨b', x, hb1, hm1, hl1, he1⟩
    · subst q1
      simp only [Env.putA, if_true] at he1
      exact .inr (by omega)

theorem run_append_room {W W' : World} {at_ : Array TypeId} {ty t u e : TypeId} {i : TypeInfo} {du : TypeDesc} (ht : at_[0]? = some t) (hu : at_[1]? = some u) (hte : P.underlying t = some (.slice e)) (hi : P.info? e = some i) (hni : ∀ k, du ≠ .int k) (hud : P.underlying u = some du)
    {ba : Option Addr} {sLen sCap n : Nat} {x : Value} {cs : List Value} (hlen : (Builtin.lenOf x).run P W = .ok n W) (hf : (Builtin.firstCells i.size n x).run P W = .ok cs.toArray W) (hfit : sLen + n ≤ sCap)
    (hst : match ba with
      | some a => (storeCells (a.add (sLen * i.size)) cs).run P W = .ok () W'
      | none => W' = W) :
    (Builtin.append_ at_ ty #[.slice ba sLen sCap, x]).run P W = .ok (.slice ba (sLen + n) sCap) W' := by
  have hsz : szT P e = some i.size := by simp [szT, hi]
  cases du
  case int k => exact absurd rfl (hni k)
  all_goals
    unfold Builtin.append_
    simp only [ht, hu, List.getElem?_toArray, List.getElem?_cons_zero, List.getElem?_cons_succ, Sem.run_bind, run_underlying hte, Result.andThen_ok, run_szT hsz, run_underlying hud, Sem.run_pure, Bool.false_eq_true, if_false, hlen, hfit, if_true, Bool.not_false, hf]
    cases ba with
    | none => simp only at hst; subst hst; simp
    | some a => simp only at hst; simp [hst]

theorem run_append_more {W : World} {at_ : Array TypeId} {ty t u e : TypeId} {i : TypeInfo} {z : Value} {du : TypeDesc} (ht : at_[0]? = some t) (hu : at_[1]? = some u) (hte : P.underlying t = some (.slice e)) (hi : P.info? e = some i) (hz : i.zero = some z) (hni : ∀ k, du ≠ .int k) (hud : P.underlying u = some du)
    {ba : Option Addr} {sLen sCap n : Nat} {x : Value} {cs0 cs : List Value} (hlen : (Builtin.lenOf x).run P W = .ok n W) (hf : (Builtin.firstCells i.size n x).run P W.drew = .ok cs.toArray W.drew)
    (hf0 : (Builtin.firstCells i.size sLen (.slice ba sLen sCap)).run P W.drew = .ok cs0.toArray W.drew) (hfit : ¬ sLen + n ≤ sCap) (hsmall : sLen + n ≤ 70368744177664) (hbytes : Builtin.nextslicecap (sLen + n) sCap * i.bytes ≤ 281474976710656) :
    ∃ cap, sLen + n ≤ cap ∧ (Builtin.append_ at_ ty #[.slice ba sLen sCap, x]).run P W =
      .ok (.slice (some ⟨W.heap.size, 0, none⟩) (sLen + n) cap) (W.drew.alloc (.cells (cs0 ++ cs ++ (Builtin.zeroCells z.cells (cap - (sLen + n))).toList).toArray e)) := by
  have hsz : szT P e = some i.size := by simp [szT, hi]
  have hzz : zeroOf P e = some z := by simp [zeroOf, hi, hz]
  have h2 : ¬ (Builtin.nextslicecap (sLen + n) sCap * i.bytes > 2 ^ 48) := by omega
  have h1 : ¬ (((sLen + n : Nat) : Int) > IntKind.i64.max ∧ (False ∨ i.bytes = 0)) := by
    simp [IntKind.max, IntKind.signed, IntKind.bits]; omega
  refine ⟨(Question.appendCap (sLen + n) sCap e).cut (W.tape W.drawn (.appendCap (sLen + n) sCap e)), by simp [Question.cut], ?_⟩
  have hcat : ∀ (arr : Array Value), (cs0 ++ cs).toArray ++ arr = (cs0 ++ (cs ++ arr.toList)).toArray := fun arr => by apply Array.ext'; simp
  have h4 : ¬ (281474976710656 < Builtin.nextslicecap (sLen + n) sCap * i.bytes) := by omega
  cases du
  case int k => exact absurd rfl (hni k)
  all_goals
    unfold Builtin.append_
    simp only [ht, hu, List.getElem?_toArray, List.getElem?_cons_zero, List.getElem?_cons_succ, Sem.run_bind, run_underlying hte, run_szT hsz, run_underlying hud, Sem.run_pure, Bool.false_eq_true, if_false, hlen, hfit, Bool.not_false, if_true,
      typeInfo, run_program, hi, h1, h2, run_choose, Question.forced, World.drew_eq, run_askRoom, hf0, hf, run_zeroOf hzz, newRow, run_newObj, Result.andThen]
    simp
    rw [hcat]
    rfl
theorem ok_appendA {c : Call} {t u : TypeId} {so xo : Operand} (ho : o.op = .call c) (hc : c.callee = .builtin .append) (hargs : c.args = #[so, xo]) (ht : c.argTypes[0]? = some t) (hu : c.argTypes[1]? = some u) :
    AopOk P o ev h (aAppendA P t u (ev so) (ev xo) h K) K := by
  intro r hr
  generalize hsv : ev so = sv at hr
  unfold aAppendA at hr
  split at hr
  · rename_i e hte
    split at hr
    · rename_i i hi
      split at hr
      · rename_i z hz
        split at hr
        · rename_i hb
          simp only [Bool.and_eq_true] at hb
          have hs1 := Nat.eq_of_beq_eq_true hb.1.1
          have hs2 := Nat.le_of_ble_eq_true hb.1.2
          have hs3 := Nat.le_of_ble_eq_true hb.2
          split at hr
          · cases hr
          · rename_i du hni hud
            split at hr
            · rename_i nn row h' hd
              obtain ⟨row2, hr2, Hsrc⟩ := srcK_ok (P := P) (by omega) hr
              split at hr2
              · rename_i row' hrow' hone'
                have hvs := rowApp_ok hrow'
                cases hcd : decide (elemsN row'.len i.size * (i.bytes + 1) ≤ 70368744177664) with
                | false => rw [hcd, cond_false] at hr2; cases hr2
                | true =>
                  rw [hcd, cond_true, appB_eq] at hr2
                  simp only [decide_eq_true_eq] at hcd
                  refine ⟨_, _, _, hr2, rfl, fun hx hsame => ?_⟩
                  have hsame : hx = h := hsame
                  subst hsame
                  intro E a W hh hv next Q hnext
                  have hops : ∀ y, y = so ∨ y = xo → VR E hx.length (ev y) (a.eval y) := fun y hy => hv y (by
                    rw [ho]; simp only [Op.operands, Call.operands, hc, hargs]; rcases hy with rfl | rfl <;> simp)
                  obtain ⟨hin2, n, hn, hlen2, hfirst2⟩ := Hsrc E W hh _ (hops xo (.inr rfl))
                  have hD := destOf_ok hd E
                  have hiz : szT P e = some i.size := by simp [szT, hi]
                  have hzz : zeroOf P e = some z := by simp [zeroOf, hi, hz]
                  have hso := hops so (.inl rfl)
                  rw [hsv] at hso
                  have hlenh : h'.length = hx.length := by
                    cases hD with
                    | nil ba he => rfl
                    | own b _ hbk => exact setB_len _ _ _
                  have hkill : Holds E h' W ∧ Trans E hx W E h' W := by
                    cases hD with
                    | nil ba he => exact ⟨hh, Trans.refl _ _ _⟩
                    | own b _ hbk => exact hh.kill b
                  have hinr : inSs hx.length row'.toVs = true := by
                    rw [hvs, inSs_append, hin2, Bool.and_true]
                    cases hD with
                    | nil ba he => subst he; rfl
                    | own b _ hbk => exact (hh.ok b _ hbk).2.1
                  -- the call, given what is done
                  have call : ∀ {ba : Option Addr} {sLen sCap : Nat} {v : Value} {W' : World}, a.eval so = .slice ba sLen sCap →
                      (Builtin.append_ c.argTypes o.type #[.slice ba sLen sCap, a.eval xo]).run P W = .ok v W' → (execOp a.eval o).run P W = .ok (.value v) W' := fun {ba sLen sCap v W'} hs hrun => by
                    have hargs' : c.args.map a.eval = #[.slice ba sLen sCap, a.eval xo] := by rw [hargs]; simp [hs]
                    simp only [execOp, ho, resolve, hc, Sem.run_bind, Sem.run_pure, Result.andThen_ok, invoke, builtin, hargs', hrun]
                  have hnint : ∀ k, du ≠ .int k := fun k hk => hni k hk
                  have fin : ∀ {sLen sCap : Nat} {ba : Option Addr} {cs0 : List Value}, a.eval so = .slice ba sLen sCap → sLen * i.size = row.toVs.length → cs0 = concs E row.toVs → ¬ sLen + n ≤ sCap →
                      (Builtin.firstCells i.size sLen (.slice ba sLen sCap)).run P W.drew = .ok cs0.toArray W.drew → Oper.wpE P o a W next Q := fun {sLen sCap ba cs0} hs hsl hcs0 hfit hf0 => by
                    have hrl : (sLen + n) * i.size = row'.len := by rw [Row.len_eq, hvs, List.length_append, ← hsl, ← hn, Nat.add_mul]
                    rw [elemsN_eq (by omega) hrl] at hcd
                    have hcd1 : sLen + n ≤ 70368744177664 := by
                      have : (sLen + n) * 1 ≤ (sLen + n) * (i.bytes + 1) := Nat.mul_le_mul_left _ (by omega)
                      omega
                    have hcd2 : (sLen + n) * i.bytes ≤ 70368744177664 := by
                      have : (sLen + n) * i.bytes ≤ (sLen + n) * (i.bytes + 1) := Nat.mul_le_mul_left _ (by omega)
                      omega
                    have hnc : Builtin.nextslicecap (sLen + n) sCap * i.bytes ≤ 281474976710656 := by
                      have h1 : Builtin.nextslicecap (sLen + n) sCap * i.bytes ≤ (2 * (sLen + n) + 512) * i.bytes := Nat.mul_le_mul_right _ (nextslicecap_le (by omega))
                      have h2 : (2 * (sLen + n) + 512) * i.bytes = 2 * ((sLen + n) * i.bytes) + 512 * i.bytes := by rw [Nat.add_mul, Nat.mul_assoc]
                      omega
                    obtain ⟨cap, hcap, hrun⟩ := run_append_more (P := P) (ty := o.type) ht hu hte hi hz hnint hud (hlen2 W) (hfirst2 W.drew hh.drew) hf0 hfit hcd1 hnc
                    have hrun' := call hs hrun
                    refine Oper.wpE_value hrun' ?_
                    have hrest : (Builtin.zeroCells z.cells (cap - (sLen + n))).toList.length = (cap - (sLen + n)) * i.size := by rw [Array.length_toList, model_zero_size, hs1]
                    obtain ⟨q1, q2⟩ := app_grow hkill hlenh (sz := i.size) (by omega) (row' := row') nn hrl hcap hinr _ hrest (e := e)
                    have he : cs0 ++ concs E row2.toVs ++ (Builtin.zeroCells z.cells (cap - (sLen + n))).toList = concs E row'.toVs ++ (Builtin.zeroCells z.cells (cap - (sLen + n))).toList := by rw [hcs0, hvs, concs_append]
                    rw [he]
                    refine hnext _ _ _ (.inr ⟨?_, ?_⟩) q1 q2
                    · simp only [inS, HEff.app, List.length_append, hlenh]; simp
                    · simp [conc, Env.putA, hlenh]
                  cases hD with
                  | nil ba he =>
                    have hs := (hso.val (by simp)).1
                    rw [conc] at hs
                    subst he
                    by_cases hn0 : n = 0
                    · have hr2 : row2.toVs = [] := List.eq_nil_of_length_eq_zero (by rw [← hn, hn0]; simp)
                      have hfc := hfirst2 W hh
                      have hrun := run_append_room (P := P) (W' := W) (ty := o.type) ht hu hte hi hnint hud (ba := ba) (sLen := 0) (sCap := 0) (hlen2 W) hfc (by omega)
                        (by rw [hr2]; cases ba <;> simp [concs, storeCells])
                      have hrun' := call hs hrun
                      refine Oper.wpE_value hrun' ?_
                      obtain ⟨q1, q2⟩ := app_none hkill hlenh (e := e) (sz := i.size) (by omega) (row' := row') (by rw [hvs, hr2]; rfl) ba
                      refine hnext _ _ _ (.inr ⟨?_, ?_⟩) q1 q2
                      · simp only [inS, HEff.app, List.length_append]; simp
                      · simp [conc, Env.putA, hn0]
                    · exact fin hs (by simp [Row.toVs]) rfl (by omega) (by cases ba <;> simp [Builtin.firstCells, Row.toVs, concs, loadCells, loadCellsFrom])
                  | own b _ hbk =>
                    have hs := (hso.val (by simp)).1
                    rw [conc] at hs
                    obtain ⟨hd0, hs0, hz0, hl0, hc0, hnil0, hcells⟩ := hh.ok b _ hbk
                    cases hnn : E.isnil b with
                    | true =>
                      rw [hnn, cond_true] at hs
                      have hr0 : row.toVs = [] := List.eq_nil_of_length_eq_zero (by rw [← Row.len_eq]; exact (hnil0 hnn).1)
                      have hnnf := (hnil0 hnn).2
                      subst hnnf
                      by_cases hn0 : n = 0
                      · have hr2 : row2.toVs = [] := List.eq_nil_of_length_eq_zero (by rw [← hn, hn0]; simp)
                        have hfc := hfirst2 W hh
                        have hrun := run_append_room (P := P) (W' := W) (ty := o.type) ht hu hte hi hnint hud (ba := E.base b) (sLen := 0) (sCap := 0) (hlen2 W) hfc (by omega)
                          (by rw [hr2]; cases E.base b <;> simp [concs, storeCells])
                        have hrun' := call hs hrun
                        refine Oper.wpE_value hrun' ?_
                        obtain ⟨q1, q2⟩ := app_none hkill hlenh (e := e) (sz := i.size) (by omega) (row' := row') (by rw [hvs, hr2, hr0]; rfl) (E.base b)
                        refine hnext _ _ _ (.inr ⟨?_, ?_⟩) q1 q2
                        · simp only [inS, HEff.app, List.length_append, hlenh]; simp
                        · simp [conc, Env.putA, hn0, hlenh]
                      · exact fin hs (by rw [hr0]; simp) rfl (by omega) (by rw [hr0]; cases E.base b <;> simp [Builtin.firstCells, concs, loadCells, loadCellsFrom])
                    | false =>
                      rw [hnn, cond_false] at hs
                      rw [Row.len_eq] at hl0
                      by_cases hfit : E.len b + n ≤ E.cap b
                      · have hfc := hfirst2 W hh
                        obtain ⟨W', hst, q1, q2⟩ := app_fit (P := P) hh hbk hnn hvs hn hfit (rowOne_conc hone') hinr
                        have hrun := run_append_room (P := P) (W' := W') (ty := o.type) ht hu hte hi hnint hud (ba := some ⟨E.blk b, E.delta b, none⟩) (sLen := E.len b) (sCap := E.cap b) (hlen2 W) hfc hfit
                          (by simp only [Addr_add_lit]; exact hst)
                        have hrun' := call hs hrun
                        refine Oper.wpE_value hrun' ?_
                        refine hnext _ _ _ (.inr ⟨?_, ?_⟩) q1 q2
                        · simp only [inS, HEff.app, List.length_append, setB_len]; simp
                        · simp [conc, Env.putA, hd0]
                      · refine fin hs hl0 rfl hfit ?_
                        have hl := run_loadCells_list (P := P) W.drew ⟨E.blk b, E.delta b, none⟩ (concs E row.toVs) (fun j v hv => by
                          rw [concs_eq, List.getElem?_map] at hv
                          cases hj : row.toVs[j]? with
                          | none => rw [hj] at hv; cases hv
                          | some w =>
                            rw [hj] at hv
                            injection hv with hv
                            rw [Addr_add_lit, ← hv]
                            exact (hh.drew.cell hbk hj).1)
                        rw [concs_eq, List.length_map, ← hl0, ← concs_eq] at hl
                        simp only [Builtin.firstCells, hl]
              · cases hr2
            · cases hr
          · cases hr
        · cases hr
      · cases hr
    · cases hr
  · cases hr

end
end Go.Eng

/- ENGINE, PART 5i: append, with what it reads and what it lets go: it may change places with operations on other blocks. -/
namespace Go.Eng
open Go
section
variable {R : Type} {P : Program} {o : Oper} {ev : Operand → V} {h : List Blk} {K : KOp R}
def nameOf : V → List Nat
  | .gs b => [b]
  | .view b _ _ _ => [b]
  | .aslice b _ _ _ => [b]
  | _ => []
def lastB : List Blk → Blk
  | [] => .dead
  | [b] => b
  | _ :: c :: r => lastB (c :: r)
theorem lastB_snoc : ∀ (l : List Blk) (b : Blk), lastB (l ++ [b]) = b
  | [], b => rfl
  | [x], b => rfl
  | x :: y :: r, b => by
    have := lastB_snoc (y :: r) b
    simpa [lastB] using this
def killV (s : V) (h : List Blk) : List Blk := match s with
  | .gs b => setB h b .dead
  | _ => h
def aAppend (P : Program) (t u : TypeId) (s x : V) (h : List Blk) (K : KOp R) : Option R := match s with
  | .gs b => aAppendA P t u (.gs b) x h (fun v _ eff => match eff with
    | .all h' => K v (nameOf x) (.kpush b h.length (lastB h'))
    | _ => none)
  | s => aAppendA P t u s x h (fun v _ eff => match eff with
    | .all h' => K v (nameOf x) (.push h.length (lastB h'))
    | _ => none)
theorem getB_nm {h h2 : List Blk} {b : Nat} (he : h2[b]? = h[b]?) : getB h2 b = getB h b := by rw [getB_eq, getB_eq, he]
theorem srcK_nm {x : V} {sz : Nat} {h h2 : List Blk} (he : ∀ b ∈ nameOf x, h2[b]? = h[b]?) {Kr : Row → Option R} : srcK x sz h2 Kr = srcK x sz h Kr := by
  cases x
  case gs b => simp only [srcK]; rw [getB_nm (he b (by simp [nameOf]))]
  case view b l sz2 len => simp only [srcK]; rw [getB_nm (he b (by simp [nameOf]))]
  case aslice b off len cap => simp only [srcK]; rw [getB_nm (he b (by simp [nameOf]))]
  case flat v =>
    cases v <;> try rfl
    rename_i ba n c
    cases n <;> cases c <;> rfl
  all_goals rfl
theorem destOf_nm {s : V} {e sz : Nat} {h h2 h' : List Blk} {nn : Bool} {row : Row} (he : ∀ b ∈ nameOf s, h2[b]? = h[b]?) (hd : destOf s e sz h = some (nn, row, h')) :
    h' = killV s h ∧ destOf s e sz h2 = some (nn, row, killV s h2) := by
  unfold destOf at hd
  split at hd
  · cases hd; exact ⟨rfl, rfl⟩
  · rename_i b
    have hg : getB h2 b = getB h b := getB_nm (he b (by simp [nameOf]))
    split at hd
    · rename_i nn' e' sz' row' hb
      split at hd
      · rename_i hq
        cases hd
        refine ⟨rfl, ?_⟩
        simp only [destOf, hg, hb, hq, killV]
      · cases hd
    · cases hd
  · cases hd
theorem srcK_to {x : V} {sz : Nat} {h : List Blk} {Kr : Row → Option R} {r : R} (hr : srcK x sz h Kr = some r) : ∃ row, Kr row = some r ∧ ∀ (R2 : Type) (K2 : Row → Option R2), srcK x sz h K2 = K2 row := by
  unfold srcK at hr
  split at hr
  · split at hr
    · rename_i hsr
      split at hr
      · rename_i hq
        exact ⟨_, hr, fun R2 K2 => by simp only [srcK, hsr, hq]⟩
      · cases hr
    · cases hr
  · rename_i b l sz2 len
    split at hr
    · rename_i sz' row hsr
      split at hr
      · rename_i hq
        cases hcd : decide (l + len ≤ elemsN row.len sz) with
        | false => rw [hcd] at hr; cases hr
        | true =>
          rw [hcd, cond_true] at hr
          split at hr
          · rename_i hrr
            exact ⟨_, hr, fun R2 K2 => by simp only [srcK, hsr, hq, hrr, hcd, cond_true]⟩
          · cases hr
      · cases hr
    · cases hr
  · rename_i b off len cap
    split at hr
    · rename_i ty row hb
      split at hr
      · rename_i hrr
        cases hcd : decide (off + mulS len sz ≤ row.len) with
        | false => rw [hcd] at hr; cases hr
        | true =>
          rw [hcd, cond_true] at hr
          exact ⟨_, hr, fun R2 K2 => by simp only [srcK, hb, hrr, hcd, cond_true]⟩
      · cases hr
    · cases hr
  · exact ⟨_, hr, fun R2 K2 => rfl⟩
  · split at hr
    · rename_i hq
      exact ⟨_, hr, fun R2 K2 => by simp only [srcK, hq]⟩
    · cases hr
  · cases hr
theorem appendA_inv {t u : TypeId} {s x : V} {h : List Blk} {K : KOp R} {r : R} (hr : aAppendA P t u s x h K = some r) : ∃ blk, K (.gs h.length) [] (.all (killV s h ++ [blk])) = some r ∧
    ∀ (h2 : List Blk) (R2 : Type) (K2 : KOp R2), (∀ b ∈ nameOf x, h2[b]? = h[b]?) → (∀ b ∈ nameOf s, h2[b]? = h[b]?) → aAppendA P t u s x h2 K2 = K2 (.gs h2.length) [] (.all (killV s h2 ++ [blk])) := by
  unfold aAppendA at hr
  split at hr
  · rename_i e hte
    split at hr
    · rename_i i hi
      split at hr
      · rename_i z hz
        split at hr
        · rename_i hb
          split at hr
          · cases hr
          · rename_i du hni hud
            split at hr
            · rename_i nn row h' hd
              obtain ⟨hk, _⟩ := destOf_nm (h2 := h) (fun _ _ => rfl) hd
              obtain ⟨row2, hr2, hS⟩ := srcK_to hr
              split at hr2
              · rename_i row' hrow' hone'
                cases hcd : decide (elemsN row'.len i.size * (i.bytes + 1) ≤ 70368744177664) with
                | false => rw [hcd, cond_false] at hr2; cases hr2
                | true =>
                  rw [hcd, cond_true, appB_eq, hk] at hr2
                  refine ⟨_, hr2, fun h2 R2 K2 hx hs => ?_⟩
                  obtain ⟨_, hd2⟩ := destOf_nm hs hd
                  unfold aAppendA
                  simp only [hte, hi, hz, hb, hud, hd2]
                  rw [srcK_nm hx, hS]
                  simp only [hrow', hone', hcd, cond_true]
                  rw [appB_eq]
              · cases hr2
            · cases hr
          · cases hr
        · cases hr
      · cases hr
    · cases hr
  · cases hr
/-- What an append lays, under whatever number. -/
def BornM (P : Program) (o : Oper) (ev : Operand → V) (h : List Blk) (v : V) (rd : List Nat) (eff : HEff) : Prop :=
  ∀ n blk, bareB blk = true → (eff = .push n blk → OpBornM P o ev h v rd none n blk) ∧ ∀ b, eff = .kpush b n blk → OpBornM P o ev h v rd (some b) n blk
theorem ok_appendM {c : Call} {t u : TypeId} {so xo : Operand} (ho : o.op = .call c) (hc : c.callee = .builtin .append) (hargs : c.args = #[so, xo]) (ht : c.argTypes[0]? = some t) (hu : c.argTypes[1]? = some u) {r : R} (hr : aAppend P t u (ev so) (ev xo) h K = some r) :
    ∃ v rd eff, K v rd eff = some r ∧ Same h h rd eff ∧ OpEff P o ev h v rd eff ∧ BornM P o ev h v rd eff := by
  have main : ∀ (blk : Blk) (h2 : List Blk), (∀ (R2 : Type) (K2 : KOp R2), aAppendA P t u (ev so) (ev xo) h2 K2 = K2 (.gs h2.length) [] (.all (killV (ev so) h2 ++ [blk]))) → OpSem P o ev h2 (.gs h2.length) (killV (ev so) h2 ++ [blk]) := by
    intro blk h2 hA
    have hq := hA (V × List Nat × HEff) (fun v rd eff => some (v, rd, eff))
    obtain ⟨v, rd, eff, hk, _, hE⟩ := ok_appendA (P := P) (ev := ev) (h := h2) (K := fun v rd eff => some (v, rd, eff)) ho hc hargs ht hu _ hq
    cases hk
    exact hE h2 rfl
  unfold aAppend at hr
  split at hr
  · rename_i b hs
    rw [← hs] at hr
    obtain ⟨blk, h1, h2⟩ := appendA_inv hr
    simp only [lastB_snoc] at h1
    have key : ∀ hx : List Blk, (∀ z ∈ nameOf (ev xo), hx[z]? = h[z]?) → hx[b]? = h[b]? → OpSem P o ev hx (.gs hx.length) (setB hx b .dead ++ [blk]) := fun hx s1 s2 => by
      have := main blk hx (fun R2 K2 => h2 hx R2 K2 s1 (fun z hz => by
        rw [hs] at hz
        simp only [nameOf, List.mem_singleton] at hz
        subst hz
        exact s2))
      rw [hs] at this
      exact this
    refine ⟨_, _, _, h1, ⟨fun _ _ => rfl, rfl, rfl⟩, fun hx hsame => ?_, fun n blk' hb => ⟨fun he => (by cases he), fun b' he => ?_⟩⟩
    · obtain ⟨s1, s2, s3⟩ := hsame
      have := key hx s1 s2
      rw [s3] at this
      exact this
    · cases he
      exact OpBornM.of hb fun hx s1 s2 => key hx s1 (s2 b rfl)
  · rename_i hs
    obtain ⟨blk, h1, h2⟩ := appendA_inv hr
    simp only [lastB_snoc] at h1
    have hk : ∀ q, killV (ev so) q = q := fun q => by
      unfold killV
      split
      · rename_i b hb; exact absurd hb (hs b)
      · rfl
    -- only slices without cells are taken here
    have hn : ∀ q R3 (K3 : KOp R3) r3, aAppendA P t u (ev so) (ev xo) q K3 = some r3 → nameOf (ev so) = [] := fun q R3 K3 r3 h3 => by
      unfold aAppendA at h3
      split at h3
      · split at h3
        · split at h3
          · split at h3
            · split at h3
              · cases h3
              · split at h3
                · rename_i hd
                  unfold destOf at hd
                  split at hd
                  · rename_i hf; rw [hf]; rfl
                  · rename_i b hf; exact absurd hf (hs b)
                  · cases hd
                · cases h3
              · cases h3
            · cases h3
          · cases h3
        · cases h3
      · cases h3
    have hne := hn _ _ _ _ hr
    have key : ∀ hx : List Blk, (∀ z ∈ nameOf (ev xo), hx[z]? = h[z]?) → OpSem P o ev hx (.gs hx.length) (hx ++ [blk]) := fun hx s1 => by
      have := main blk hx (fun R2 K2 => h2 hx R2 K2 s1 (fun z hz => by rw [hne] at hz; cases hz))
      rw [hk] at this
      exact this
    refine ⟨_, _, _, h1, ⟨fun _ _ => rfl, rfl⟩, fun hx hsame => ?_, fun n blk' hb => ⟨fun he => ?_, fun b' he => (by cases he)⟩⟩
    · obtain ⟨s1, s2⟩ := hsame
      have := key hx s1
      rw [s2] at this
      exact this
    · cases he
      exact OpBornM.of hb fun hx s1 _ => key hx s1
theorem ok_append {c : Call} {t u : TypeId} {so xo : Operand} (ho : o.op = .call c) (hc : c.callee = .builtin .append) (hargs : c.args = #[so, xo]) (ht : c.argTypes[0]? = some t) (hu : c.argTypes[1]? = some u) :
    AopOk P o ev h (aAppend P t u (ev so) (ev xo) h K) K := by
  intro r hr
  obtain ⟨v, rd, eff, h1, h2, h3, _⟩ := ok_appendM ho hc hargs ht hu hr
  exact ⟨v, rd, eff, h1, h2, h3⟩
end
end Go.Eng
