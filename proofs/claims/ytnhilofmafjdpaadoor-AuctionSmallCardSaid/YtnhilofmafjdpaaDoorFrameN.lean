/- Texts merged: FrameN, FrameT, Sm10, FrameK. -/
import Derived.Test.YtnhilofmafjdpaaDoorRB
import Derived.Test.YtnhilofmafjdpaaDoorEng4
import Derived.Lay
import Derived.WideKeyArgs
import Derived.Test.YtnhilofmafjdpaaDoorSm7
import Derived.WideKeyPair
/- Chapter 9: the frame of a law over the table and any number of slices of bytes. -/
namespace Go.Proofs.YtnhilofmafjdpaaDoor
open Go Go.Eng Go.ChangeShapes Go.WideShapes Go.ChangeAt Go.RowKit
theorem u8_range {a : Int} (w : (Lit.int .u8 a).wf = true) : 0 ≤ a ∧ a < 256 := by
  simp only [Lit.wf, IntKind.min, IntKind.max, IntKind.signed, IntKind.bits, Bool.and_eq_true] at w
  simp at w
  omega
def laidL : List (String × DataW Unit) := [("finesse/call.texts", Rows.laid_finesse_call_texts)]
def textsB : List (List UInt8) := textsL.map fun b => b.data.toList
theorem texts_datum : (Rows.laid_finesse_call_texts : DataW Unit) = .agg (textsB.map fun s => .lit (.string s)) := by kernel_rfl
theorem own : ownKnob Tryd.prog.godebug = none := by kernel_rfl
theorem gTexts : Tryd.prog.globalNamed "finesse/call.texts" = some 0 := by kernel_rfl
theorem tTexts : (Tryd.prog.globals[0]?).map (·.type) = some 106 := by kernel_rfl
theorem cells9 : Tryd.prog.cellsOf 9 = 1 := by kernel_rfl
theorem cells5 : Tryd.prog.cellsOf 5 = 1 := by kernel_rfl
theorem door_met (os : Os) (args : Array Value) : laidMetH Tryd.prog laidL ((World.doorLaid Tryd.prog 400 os).forCall (fun _ _ => 0) ⟨#[], args, []⟩).memory :=
  laidMetH_of_parts3 (fuel := 8) (laidMet_of_run' 8 (by kernel_rfl) (by kernel_rfl)) (by kernel_rfl) (by kernel_rfl)
/-- The table's cells. -/
def TextsAt (W : World) : Prop := ∀ (i : Nat) x, textsL[i]? = some x → W.cell? ⟨0, i, none⟩ = some (.string x)
theorem texts_of {W : World} (h : laidMetH Tryd.prog laidL W) : TextsAt W := by
  rw [MakeChecks.laidMetH_plain _ _ _ (by kernel_rfl)] at h
  obtain ⟨ps, ⟨g0, t0, cs0, f0, p0, q0, hg0, ht0, hv0, hd0, _, _⟩, _, _⟩ := h
  obtain rfl := Option.some.inj (gTexts.symm.trans hg0)
  obtain rfl := Option.some.inj (tTexts.symm.trans ht0)
  intro i x hx
  rw [World.var?_cell hg0 hv0 i]
  have := laid_strs Tryd.underlying106 Tryd.underlying9 cells9 hd0 texts_datum i x.data.toList (by rw [textsB, List.getElem?_map, hx]; rfl)
  simpa using this
/-- A slice of bytes that came in. -/
structure Sl where
  blk : Nat
  delta : Nat
  len : Nat
  cap : Nat
  nil : Bool
  base : Option Addr
def Sl.val (s : Sl) : Value := bif s.nil then .slice s.base 0 0 else .slice (some ⟨s.blk, s.delta, none⟩) s.len s.cap
def Sl.Ok (W : World) (s : Sl) (xs : List Int) : Prop := s.len = xs.length ∧ s.len ≤ s.cap ∧ (s.nil = true → xs = []) ∧ (s.nil = false → ∀ (i : Nat) x, xs[i]? = some x → W.cell? ⟨s.blk, s.delta + i, none⟩ = some (.int .u8 x))
def sl0 : Sl := ⟨0, 0, 0, 0, true, none⟩
def slAt (ss : List (Sl × List Int)) : Nat → Sl
  | 0 => sl0
  | b + 1 => match ss[b]? with | some x => x.1 | none => sl0
def envN (ss : List (Sl × List Int)) : Env := { blk := fun b => (slAt ss b).blk, delta := fun b => (slAt ss b).delta, len := fun b => (slAt ss b).len, cap := fun b => (slAt ss b).cap, isnil := fun b => (slAt ss b).nil, base := fun b => (slAt ss b).base }
def rsB (x : Sl × List Int) : Blk := .rs (!x.1.nil) 1 (.ints .u8 x.2)
def gN (ss : List (Sl × List Int)) : List Blk := gH ++ ss.map rsB
theorem ints_in (n : Nat) (k : IntKind) (l : List Int) : inSs n (Row.ints k l).toVs = true := by
  rw [inSs_eq, List.all_eq_true]; intro v hv; obtain ⟨z, _, rfl⟩ := List.mem_map.1 hv; rfl
theorem strs_in (n : Nat) (l : List ByteArray) : inSs n (Row.strs l).toVs = true := by
  rw [inSs_eq, List.all_eq_true]; intro v hv; obtain ⟨z, _, rfl⟩ := List.mem_map.1 hv; rfl
theorem gN_get {ss : List (Sl × List Int)} {b : Nat} {blk : Blk} (h : (gN ss)[b]? = some blk) : (b = 0 ∧ blk = .glob 0 (.strs textsL)) ∨ ∃ i x, b = i + 1 ∧ ss[i]? = some x ∧ blk = rsB x := by
  cases b with
  | zero => exact .inl ⟨rfl, by simpa [gN, gH] using h.symm⟩
  | succ i =>
    simp only [gN, gH, List.cons_append, List.nil_append, List.getElem?_cons_succ, List.getElem?_map, Option.map_eq_some_iff] at h
    obtain ⟨x, h1, h2⟩ := h
    exact .inr ⟨i, x, rfl, h1, h2.symm⟩
theorem gN_ro {ss : List (Sl × List Int)} (b : Nat) (blk : Blk) (h : (gN ss)[b]? = some blk) : blk.mine = false := by
  rcases gN_get h with ⟨_, rfl⟩ | ⟨_, _, _, _, rfl⟩ <;> rfl
theorem holdsN {W : World} (h : TextsAt W) {ss : List (Sl × List Int)} (hs : ∀ x ∈ ss, x.1.Ok W x.2) : Holds (envN ss) (gN ss) W := by
  refine ⟨fun b blk hb => ?_, fun b b' x x' hb hb' hm _ _ _ => by rw [gN_ro b x hb] at hm; cases hm⟩
  rcases gN_get hb with ⟨rfl, rfl⟩ | ⟨i, x, rfl, hi, rfl⟩
  · refine ⟨rfl, rfl, strs_in _ _, fun i v hv => ?_⟩
    simp only [Row.toVs, List.getElem?_map, Option.map_eq_some_iff] at hv
    obtain ⟨z, hz, rfl⟩ := hv
    have := h i z hz
    simpa [envN, slAt, sl0, conc] using this
  · obtain ⟨q1, q2, q3, q4⟩ := hs x (List.mem_of_getElem? hi)
    have e : slAt ss (i + 1) = x.1 := by simp [slAt, hi]
    refine ⟨ints_in _ _ _, by omega, by simp only [envN, e, Row.len, q1]; omega, by simp only [envN, e]; exact q2, fun hn => ?_, fun hn j v hj => ?_⟩
    · simp only [envN, e] at hn
      rw [Row.len, q3 hn, hn]; exact ⟨rfl, rfl⟩
    · simp only [envN, e] at hn ⊢
      simp only [Row.toVs, List.getElem?_map, Option.map_eq_some_iff] at hj
      obtain ⟨z, hz, rfl⟩ := hj
      exact q4 hn j z hz
theorem walkN {C : Oracle} (hC : OracleOk Tryd.prog C) {L : Loops} (hL : loopsOk Tryd.prog L) {f : FuncId} {fn : Func} (hf : Tryd.prog.funcs[f]? = some fn) {W : World} (h : TextsAt W) {ss : List (Sl × List Int)} (hs : ∀ x ∈ ss, x.1.Ok W x.2) {args : List V}
    (he : evalFn Tryd.prog C L 100 f fn args (gN ss) (fun v _ => some v) = some (.bool true)) (ha : inSs (gN ss).length args = true) :
    Calls Tryd.prog f (concs (envN ss) args).toArray W fun e w' => e = .returned (.bool true) ∧ RowKit.Below W.heap.size W w' := by
  obtain ⟨v1, h1, hk, hok⟩ := evalFn_ok hC mixed hf hL he
  cases hk
  refine (hok _ W (holdsN h hs) ha).mono ?_
  rintro e w' ⟨x, E', rfl, hx, _, ht⟩
  exact ⟨by rw [hx.bool], ht.below_ro gN_ro⟩
theorem allU_of : ∀ (xs : List Int), (∀ n ∈ xs, (Lit.int .u8 n).wf = true) → allU xs = true
  | [], _ => rfl
  | a :: r, h => by
    simp only [allU, Bool.and_eq_true, decide_eq_true_eq]
    exact ⟨u8_range (h a (by simp)), allU_of r fun n hn => h n (by simp [hn])⟩
/-- A slice of bytes, as its reading tells it. -/
theorem slice_of {H : Type} {enc : TypeId × Value → H} {W : World} {ba : Option Addr} {n c : Nat} {d : DataW H} {p : List MemPlace} (h : DataW.Trod enc Tryd.prog W 0 (fun _ => true) true 26 (.slice ba n c) d p) :
    ∃ (s : Sl) (xs : List Int), s.val = .slice ba n c ∧ s.Ok W xs ∧ allU xs = true ∧ s.len = n := by
  obtain ⟨fuel, hf⟩ := h
  rcases open_ints Tryd.underlying26 Tryd.underlying5 cells5 hf with ⟨hcs, _⟩ | ⟨a, len, cap, zs, hcs, _, hl, hm, hz, _, hcell, hwz⟩
  · have hv1 := slice_cells hcs
    cases hv1
    exact ⟨⟨0, 0, 0, 0, true, none⟩, [], rfl, ⟨rfl, Nat.le_refl _, fun _ => rfl, fun hn => by cases hn⟩, rfl, rfl⟩
  · have hv1 := slice_cells hcs
    obtain ⟨e1, e2, e3⟩ : some a = ba ∧ len = n ∧ cap = c := by simp only [Value.slice.injEq] at hv1; exact ⟨hv1.1.symm, hv1.2.1.symm, hv1.2.2.symm⟩
    subst e1; subst e2; subst e3
    have hz' : zs.length = cap := by simpa using hz
    rcases Nat.eq_zero_or_pos cap with hc0 | hc0
    · subst hc0
      obtain rfl : len = 0 := by omega
      exact ⟨⟨0, 0, 0, 0, true, some a⟩, [], rfl, ⟨rfl, Nat.le_refl _, fun _ => rfl, fun hn => by cases hn⟩, rfl, rfl⟩
    · obtain ⟨b, off, rfl, hat⟩ := ints_at hcell (by omega)
      refine ⟨⟨b, off, len, cap, false, none⟩, zs.take len, rfl, ⟨by show len = (zs.take len).length; rw [List.length_take]; omega, hl, (fun hn => by cases hn), fun _ i x hi => ?_⟩, allU_of _ fun n hn => hwz n (List.mem_of_mem_take hn), rfl⟩
      rw [List.getElem?_take] at hi
      split at hi
      · have hlt := getElem?_lt hi
        have := hat i hlt
        rw [List.getD_eq_getElem?_getD, hi] at this
        exact this
      · cases hi
end Go.Proofs.YtnhilofmafjdpaaDoor

/- Chapter 9: the rows that list three tables. -/
namespace Go.Proofs.YtnhilofmafjdpaaDoor
open Go Go.Eng Go.ChangeShapes Go.WideShapes Go.ChangeAt Go.RowKit
def laidL3 : List (String × DataW Unit) := [("unicode/utf8.acceptRanges", Rows.laid_unicode_utf8_acceptRanges), ("finesse/call.texts", Rows.laid_finesse_call_texts), ("unicode/utf8.first", Rows.laid_unicode_utf8_first)]
theorem texts_of3 {W : World} (h : laidMetH Tryd.prog laidL3 W) : TextsAt W := by
  rw [MakeChecks.laidMetH_plain _ _ _ (by kernel_rfl)] at h
  obtain ⟨ps, ⟨_, _, _, _, _, _, _, _, _, _, ⟨g0, t0, cs0, f0, p0, q0, hg0, ht0, hv0, hd0, _, _⟩, _⟩, _, _⟩ := h
  obtain rfl := Option.some.inj (gTexts.symm.trans hg0)
  obtain rfl := Option.some.inj (tTexts.symm.trans ht0)
  intro i x hx
  rw [World.var?_cell hg0 hv0 i]
  have := laid_strs Tryd.underlying106 Tryd.underlying9 cells9 hd0 texts_datum i x.data.toList (by rw [textsB, List.getElem?_map, hx]; rfl)
  simpa using this
end Go.Proofs.YtnhilofmafjdpaaDoor

/- Chapter 9: the law AuctionSmall: the whole. -/
namespace Go.Proofs.YtnhilofmafjdpaaDoor
open Go Go.Eng Go.RowKit Go.ChangeAt Go.ChangeShapes
theorem small_eval (X : SX) (C1 : Int → List ByteArray → List Int → Bool) (C2 : Int → List ByteArray → Bool) : evalFn Tryd.prog (orcS7 X plainL) (s7L C1 C2) 100 11 Tryd.f11 [] (gH ++ [.ro (.vs [])]) (fun v _ => some v) =
    cond (codesB [(s1Lp, s1Lp)]) (bif C1 0 textsL [0, 1, 2, 3, 5, 8, 37, 38] then bif pB (textsL = textsL) && X.CL 2 lngL then bif pB (textsL = textsL) && X.CL 2 (lngL ++ [0]) then bif pB (textsL = textsL) && X.CL 1 (List.take 318 lngL) then bif pB (textsL = textsL) && X.CL 2 [] then
      bif pB (textsL = textsL) && X.CL 4 [] then cond (codesB [(s2Lp, s2Lp)]) (bif C2 0 textsL then bif pB (textsL = textsL) then bif pB (textsL = textsL) then some (.bool true) else none else none else none) none else none else none else none else none else none else none) none := by kernel_rfl
theorem small_true : evalFn Tryd.prog (orcS7 sX plainL) (s7L s1C s2C) 100 11 Tryd.f11 [] (gH ++ [.ro (.vs [])]) (fun v _ => some v) = some (.bool true) := by
  rw [small_eval, lpCd, lpCd, pB_iff.2 rfl, show s1C 0 textsL [0, 1, 2, 3, 5, 8, 37, 38] = true by unfold s1C; rw [pB_iff.2 rfl]; rfl, show s2C 0 textsL = true by unfold s2C; rw [pB_iff.2 rfl]; rfl, show sX.CL 2 lngL = true by kernel_rfl, show sX.CL 2 (lngL ++ [0]) = true by kernel_rfl,
    show sX.CL 1 (List.take 318 lngL) = true by kernel_rfl, show sX.CL 2 [] = true by kernel_rfl, show sX.CL 4 [] = true by kernel_rfl]
  rfl
theorem holdsS {W : World} (h : TextsAt W) : Holds (envN []) (gH ++ [.ro (.vs [])]) W :=
  Holds.snoc (holdsN (ss := []) h (fun x hx => by cases hx)) ⟨rfl, fun i v hi => by simp [Row.toVs] at hi⟩ (fun b y _ _ hl _ => by simp [liveAt, Row.toVs] at hl)
theorem small_calls {W : World} (h : TextsAt W) : Calls Tryd.prog 11 #[] W fun e w' => e = .returned (.bool true) ∧ RowKit.Below W.heap.size W w' := by
  obtain ⟨v1, h1, hk, hok⟩ := evalFn_ok (orcS7_ok plainL_ok) mixed Tryd.func11 s7L_ok small_true
  cases hk
  refine (hok _ W (holdsS h) rfl).mono ?_
  rintro e w' ⟨x, E', rfl, hx, _, ht⟩
  refine ⟨by rw [hx.bool], ht.below_ro fun b blk hb => ?_⟩
  match b, hb with
  | 0, hb => cases hb; rfl
  | 1, hb => cases hb; rfl
  | b + 2, hb => simp [gH] at hb
end Go.Proofs.YtnhilofmafjdpaaDoor

/- Chapter 9: a contract (four bytes) as an argument. -/
namespace Go.Proofs.YtnhilofmafjdpaaDoor
open Go Go.Eng Go.ChangeShapes Go.WideShapes Go.ChangeAt Go.RowKit Go.WideMaps
theorem fields23 : ∃ n0 n1 n2 n3, ∃ f0 f1 f2 f3 : Field, Tryd.prog.underlying 23 = some (.struct #[f0, f1, f2, f3]) ∧ (f0.name, f1.name, f2.name, f3.name) = (n0, n1, n2, n3) ∧ (f0.type = 5 ∧ f1.type = 5 ∧ f2.type = 5 ∧ f3.type = 5) ∧ (f0.offset = 0 ∧ f1.offset = 1 ∧ f2.offset = 2 ∧ f3.offset = 3) :=
  ⟨_, _, _, _, _, _, _, _, Tryd.underlying23, rfl, ⟨rfl, rfl, rfl, rfl⟩, ⟨rfl, rfl, rfl, rfl⟩⟩
theorem cells23 : Tryd.prog.cellsOf 23 = 4 := by kernel_rfl
variable {H : Type} {enc : TypeId × Value → H} {W : World} {base : Nat} {sp : Nat → Bool} {held : Bool}
set_option maxRecDepth 100000 in
theorem open_con {r : Reach} {b0 : Nat} {v : Value} {d : DataW H} {ps : List MemPlace} (hval : Value.okWide Tryd.prog W r b0 23 v) (hd : DataW.Trod enc Tryd.prog W base sp held 23 v d ps) :
    ∃ x0 x1 x2 x3 : Int, v = .agg #[.int .u8 x0, .int .u8 x1, .int .u8 x2, .int .u8 x3] ∧ d = .agg [.lit (.int .u8 x0), .lit (.int .u8 x1), .lit (.int .u8 x2), .lit (.int .u8 x3)] ∧ ps = [] ∧
      (Lit.int .u8 x0).wf = true ∧ (Lit.int .u8 x1).wf = true ∧ (Lit.int .u8 x2).wf = true ∧ (Lit.int .u8 x3).wf = true := by
  obtain ⟨n0, n1, n2, n3, f0, f1, f2, f3, hu, _, ⟨t0, t1, t2, t3⟩, o0, o1, o2, o3⟩ := fields23
  obtain ⟨c0, c1, c2, c3, rfl⟩ : ∃ c0 c1 c2 c3, v = .agg #[c0, c1, c2, c3] := by
    simp only [Value.okWide, hu] at hval
    obtain ⟨cs, h1, h2, _⟩ := hval
    rw [cells23] at h2
    obtain ⟨l⟩ := cs
    match l, h2 with
    | [c0, c1, c2, c3], _ => exact ⟨c0, c1, c2, c3, h1⟩
  obtain ⟨fuel, hf⟩ := hd
  cases fuel with
  | zero => simp [DataW.trod] at hf
  | succ n =>
    rw [DataW.trod_step] at hf
    unfold DataW.trodStep at hf
    simp only [hu, Value.cells] at hf
    rw [if_pos (by rw [cells23]; rfl)] at hf
    simp only [Option.map_eq_some_iff] at hf
    obtain ⟨xs, hx, e1⟩ := hf
    rw [List.mapM_cons, List.mapM_cons, List.mapM_cons, List.mapM_cons, List.mapM_nil] at hx
    simp only [bind, Option.bind_eq_some_iff, pure, Option.some.injEq, t0, t1, t2, t3, o0, o1, o2, o3, cells5] at hx
    obtain ⟨y0, h0, _, ⟨y1, h1, _, ⟨y2, h2, _, ⟨y3, h3, _, rfl, rfl⟩, rfl⟩, rfl⟩, rfl⟩ := hx
    obtain ⟨x0, e0, rfl, w0⟩ := DataW.trod_int Tryd.underlying5 h0
    obtain ⟨x1, e1', rfl, w1⟩ := DataW.trod_int Tryd.underlying5 h1
    obtain ⟨x2, e2, rfl, w2⟩ := DataW.trod_int Tryd.underlying5 h2
    obtain ⟨x3, e3, rfl, w3⟩ := DataW.trod_int Tryd.underlying5 h3
    simp at e0 e1' e2 e3
    subst e0; subst e1'; subst e2; subst e3
    simp only [Prod.mk.injEq] at e1
    exact ⟨x0, x1, x2, x3, rfl, by rw [← e1.1]; rfl, by rw [← e1.2]; rfl, w0, w1, w2, w3⟩
theorem shut_con {x0 x1 x2 x3 : Int} (w0 : (Lit.int .u8 x0).wf = true) (w1 : (Lit.int .u8 x1).wf = true) (w2 : (Lit.int .u8 x2).wf = true) (w3 : (Lit.int .u8 x3).wf = true) :
    DataW.Trod enc Tryd.prog W base sp held 23 (.agg #[.int .u8 x0, .int .u8 x1, .int .u8 x2, .int .u8 x3]) (.agg [.lit (.int .u8 x0), .lit (.int .u8 x1), .lit (.int .u8 x2), .lit (.int .u8 x3)]) [] := by
  obtain ⟨n0, n1, n2, n3, f0, f1, f2, f3, hu, _, ⟨t0, t1, t2, t3⟩, o0, o1, o2, o3⟩ := fields23
  refine ⟨2, ?_⟩
  have key : ∀ {x : Int}, (Lit.int .u8 x).wf = true → DataW.trod enc Tryd.prog W base sp held 1 5 [.int .u8 x] = some (.lit (.int .u8 x), []) := fun {x} wx => by
    show DataW.trod enc Tryd.prog W base sp held (0 + 1) 5 [.int .u8 x] = _
    rw [DataW.trod_step]
    unfold DataW.trodStep
    simp [Tryd.underlying5, wx]
  show DataW.trod enc Tryd.prog W base sp held (1 + 1) 23 _ = _
  rw [DataW.trod_step]
  unfold DataW.trodStep
  simp only [hu, Value.cells]
  rw [if_pos (by rw [cells23]; rfl)]
  simp [t0, t1, t2, t3, o0, o1, o2, o3, cells5, key w0, key w1, key w2, key w3]
end Go.Proofs.YtnhilofmafjdpaaDoor
