/- Texts merged: FrameK, FrameT, FrameW. -/
import Derived.Test.YtnhilofmafjdpaaDoorRS4
import Derived.WideKeyPair
import Derived.SliceStrings
/- Chapter 9: a contract (four bytes) as an argument. -/
namespace Go.Proofs.YtnhilofmafjdpaaDoor
open Go Go.Eng Go.ChangeShapes Go.WideShapes Go.ChangeAt Go.RowKit Go.WideMaps
theorem fields23 : ∃ n0 n1 n2 n3, ∃ f0 f1 f2 f3 : Field, Tryd.prog.underlying 23 = some (.struct #[f0, f1, f2, f3]) ∧ (f0.name, f1.name, f2.name, f3.name) = (n0, n1, n2, n3) ∧ (f0.type = 5 ∧ f1.type = 5 ∧ f2.type = 5 ∧ f3.type = 5) ∧ (f0.offset = 0 ∧ f1.offset = 1 ∧ f2.offset = 2 ∧ f3.offset = 3) :=
  ⟨_, _, _, _, _, _, _, _, Tryd.underlying23, rfl, ⟨rfl, rfl, rfl, rfl⟩, ⟨rfl, rfl, rfl, rfl⟩⟩
theorem cells23 : Tryd.prog.cellsOf 23 = 4 := by kernel_rfl
variable {H : Type} {enc : TypeId × Value → H} {W : World} {base : Nat} {sp : Nat → Bool} {held : Bool}
set_option maxRecDepth 100000 in
theorem open_con {r : Reach} {b0 : Nat} {v : Value} {d : DataW H} {ps : List MemPlace} (hval : Value.okWide Tryd.prog W r b0 23 v) (hd : DataW.Trod enc Tryd.prog W base sp held 23 v d ps) :
    ∃ x0 x1 x2 x3 : Int, v = .agg #[.int .u8 x0, .int .u8 x1, .int .u8 x2, .int .u8 x3] ∧ d = .agg [.lit (.int .u8 x0), .lit (.int .u8 x1), .lit (.int .u8 x2), .lit (.int .u8 x3)] ∧ ps = [] ∧
      (Lit.int .u8 x0).wf = true ∧ (Lit.int .u8 x1).wf = true ∧ (Lit.int .u8 x2).wf = true ∧ (Lit.int .u8 x3).wf = true := by
  obtain ⟨n0, n1, n2, n3, f0, f1, f2, f3, hu, _, ⟨t0, t1, t2, t3⟩, o0, o1, o2, o3⟩ := fields23
  obtain ⟨c0, c1, c2, c3, rfl⟩ : ∃ c0 c1 c2 c3, v = .agg #[c0, c1, c2, c3] := by
    simp only [Value.okWide, hu] at hval
    obtain ⟨cs, h1, h2, _⟩ := hval
    rw [cells23] at h2
    obtain ⟨l⟩ := cs
    match l, h2 with
    | [c0, c1, c2, c3], _ => exact ⟨c0, c1, c2, c3, h1⟩
  obtain ⟨fuel, hf⟩ := hd
  cases fuel with
  | zero => simp [DataW.trod] at hf
  | succ n =>
    rw [DataW.trod_step] at hf
    unfold DataW.trodStep at hf
    simp only [hu, Value.cells] at hf
    rw [if_pos (by rw [cells23]; rfl)] at hf
    simp only [Option.map_eq_some_iff] at hf
    obtain ⟨xs, hx, e1⟩ := hf
    rw [List.mapM_cons, List.mapM_cons, List.mapM_cons, List.mapM_cons, List.mapM_nil] at hx
    simp only [bind, Option.bind_eq_some_iff, pure, Option.some.injEq, t0, t1, t2, t3, o0, o1, o2, o3, cells5] at hx
    obtain ⟨y0, h0, _, ⟨y1, h1, _, ⟨y2, h2, _, ⟨y3, h3, _, rfl, rfl⟩, rfl⟩, rfl⟩, rfl⟩ := hx
    obtain ⟨x0, e0, rfl, w0⟩ := DataW.trod_int Tryd.underlying5 h0
    obtain ⟨x1, e1', rfl, w1⟩ := DataW.trod_int Tryd.underlying5 h1
    obtain ⟨x2, e2, rfl, w2⟩ := DataW.trod_int Tryd.underlying5 h2
    obtain ⟨x3, e3, rfl, w3⟩ := DataW.trod_int Tryd.underlying5 h3
    simp at e0 e1' e2 e3
    subst e0; subst e1'; subst e2; subst e3
    simp only [Prod.mk.injEq] at e1
    exact ⟨x0, x1, x2, x3, rfl, by rw [← e1.1]; rfl, by rw [← e1.2]; rfl, w0, w1, w2, w3⟩
theorem shut_con {x0 x1 x2 x3 : Int} (w0 : (Lit.int .u8 x0).wf = true) (w1 : (Lit.int .u8 x1).wf = true) (w2 : (Lit.int .u8 x2).wf = true) (w3 : (Lit.int .u8 x3).wf = true) :
    DataW.Trod enc Tryd.prog W base sp held 23 (.agg #[.int .u8 x0, .int .u8 x1, .int .u8 x2, .int .u8 x3]) (.agg [.lit (.int .u8 x0), .lit (.int .u8 x1), .lit (.int .u8 x2), .lit (.int .u8 x3)]) [] := by
  obtain ⟨n0, n1, n2, n3, f0, f1, f2, f3, hu, _, ⟨t0, t1, t2, t3⟩, o0, o1, o2, o3⟩ := fields23
  refine ⟨2, ?_⟩
  have key : ∀ {x : Int}, (Lit.int .u8 x).wf = true → DataW.trod enc Tryd.prog W base sp held 1 5 [.int .u8 x] = some (.lit (.int .u8 x), []) := fun {x} wx => by
    show DataW.trod enc Tryd.prog W base sp held (0 + 1) 5 [.int .u8 x] = _
    rw [DataW.trod_step]
    unfold DataW.trodStep
    simp [Tryd.underlying5, wx]
  show DataW.trod enc Tryd.prog W base sp held (1 + 1) 23 _ = _
  rw [DataW.trod_step]
  unfold DataW.trodStep
  simp only [hu, Value.cells]
  rw [if_pos (by rw [cells23]; rfl)]
  simp [t0, t1, t2, t3, o0, o1, o2, o3, cells5, key w0, key w1, key w2, key w3]
end Go.Proofs.YtnhilofmafjdpaaDoor

/- Chapter 9: the rows that list three tables. -/
namespace Go.Proofs.YtnhilofmafjdpaaDoor
open Go Go.Eng Go.ChangeShapes Go.WideShapes Go.ChangeAt Go.RowKit
def laidL3 : List (String × DataW Unit) := [("unicode/utf8.acceptRanges", Rows.laid_unicode_utf8_acceptRanges), ("finesse/call.texts", Rows.laid_finesse_call_texts), ("unicode/utf8.first", Rows.laid_unicode_utf8_first)]
theorem texts_of3 {W : World} (h : laidMetH Tryd.prog laidL3 W) : TextsAt W := by
  rw [MakeChecks.laidMetH_plain _ _ _ (by kernel_rfl)] at h
  obtain ⟨ps, ⟨_, _, _, _, _, _, _, _, _, _, ⟨g0, t0, cs0, f0, p0, q0, hg0, ht0, hv0, hd0, _, _⟩, _⟩, _, _⟩ := h
  obtain rfl := Option.some.inj (gTexts.symm.trans hg0)
  obtain rfl := Option.some.inj (tTexts.symm.trans ht0)
  intro i x hx
  rw [World.var?_cell hg0 hv0 i]
  have := laid_strs Tryd.underlying106 Tryd.underlying9 cells9 hd0 texts_datum i x.data.toList (by rw [textsB, List.getElem?_map, hx]; rfl)
  simpa using this
end Go.Proofs.YtnhilofmafjdpaaDoor

/- Chapter 9: the frame of a law over the table and a slice of strings. -/
namespace Go.Proofs.YtnhilofmafjdpaaDoor
open Go Go.Eng Go.ChangeShapes Go.WideShapes Go.ChangeAt Go.RowKit
def Sl.OkS (W : World) (s : Sl) (xs : List ByteArray) : Prop := s.len = xs.length ∧ s.len ≤ s.cap ∧ (s.nil = true → xs = []) ∧ (s.nil = false → ∀ (i : Nat) x, xs[i]? = some x → W.cell? ⟨s.blk, s.delta + i, none⟩ = some (.string x))
def envW (s : Sl) : Env := envN [(s, [])]
theorem holdsW {W : World} (h : TextsAt W) {s : Sl} {xs : List ByteArray} (hs : s.OkS W xs) : Holds (envW s) (gH ++ [.rs (!s.nil) 1 (.strs xs)]) W := by
  have hro : ∀ (b : Nat) blk, (gH ++ [.rs (!s.nil) 1 (.strs xs)] : List Blk)[b]? = some blk → (b = 0 ∧ blk = .glob 0 (.strs textsL)) ∨ (b = 1 ∧ blk = .rs (!s.nil) 1 (.strs xs)) := by
    intro b blk hb
    match b, hb with
    | 0, hb => cases hb; exact .inl ⟨rfl, rfl⟩
    | 1, hb => cases hb; exact .inr ⟨rfl, rfl⟩
    | _ + 2, hb => simp [gH] at hb
  refine ⟨fun b blk hb => ?_, fun b b' x x' hb hb' hm _ _ _ => by rcases hro b x hb with ⟨_, rfl⟩ | ⟨_, rfl⟩ <;> cases hm⟩
  rcases hro b blk hb with ⟨rfl, rfl⟩ | ⟨rfl, rfl⟩
  · refine ⟨rfl, rfl, strs_in _ _, fun i v hv => ?_⟩
    simp only [Row.toVs, List.getElem?_map, Option.map_eq_some_iff] at hv
    obtain ⟨z, hz, rfl⟩ := hv
    have := h i z hz
    simpa [envW, envN, slAt, sl0, conc] using this
  · obtain ⟨q1, q2, q3, q4⟩ := hs
    have e : slAt [(s, [])] (0 + 1) = s := by simp [slAt]
    refine ⟨strs_in _ _, by omega, by simp only [envW, envN, e, Row.len, q1]; omega, by simp only [envW, envN, e]; exact q2, fun hn => ?_, fun hn j v hj => ?_⟩
    · simp only [envW, envN, e] at hn
      rw [Row.len, q3 hn, hn]; exact ⟨rfl, rfl⟩
    · simp only [envW, envN, e] at hn ⊢
      simp only [Row.toVs, List.getElem?_map, Option.map_eq_some_iff] at hj
      obtain ⟨z, hz, rfl⟩ := hj
      exact q4 hn j z hz
theorem walkW {C : Oracle} (hC : OracleOk Tryd.prog C) {L : Loops} (hL : loopsOk Tryd.prog L) {f : FuncId} {fn : Func} (hf : Tryd.prog.funcs[f]? = some fn) {W : World} (h : TextsAt W) {s : Sl} {xs : List ByteArray} (hs : s.OkS W xs) {args : List V}
    (he : evalFn Tryd.prog C L 100 f fn args (gH ++ [.rs (!s.nil) 1 (.strs xs)]) (fun v _ => some v) = some (.bool true)) (ha : inSs 2 args = true) :
    Calls Tryd.prog f (concs (envW s) args).toArray W fun e w' => e = .returned (.bool true) ∧ RowKit.Below W.heap.size W w' := by
  obtain ⟨v1, h1, hk, hok⟩ := evalFn_ok hC mixed hf hL he
  cases hk
  refine (hok _ W (holdsW h hs) ha).mono ?_
  rintro e w' ⟨x, E', rfl, hx, _, ht⟩
  refine ⟨by rw [hx.bool], ht.below_ro ?_⟩
  intro b blk hb
  match b, hb with
  | 0, hb => cases hb; rfl
  | 1, hb => cases hb; rfl
  | _ + 2, hb => simp [gH] at hb
/-- A slice of strings, as its reading tells it. -/
theorem sliceS_of {H : Type} {enc : TypeId × Value → H} {W : World} {ba : Option Addr} {n c : Nat} {d : DataW H} {p : List MemPlace} (h : DataW.Trod enc Tryd.prog W 0 (fun _ => true) true 41 (.slice ba n c) d p) :
    ∃ (s : Sl) (xs : List ByteArray), s.val = .slice ba n c ∧ s.OkS W xs := by
  obtain ⟨fuel, hf⟩ := h
  rcases open_strings Tryd.underlying41 Tryd.underlying9 cells9 hf with ⟨hcs, _⟩ | ⟨a, len, cap, zs, hcs, _, hl, hm, hz, _, hcell, hwz⟩
  · have hv1 := slice_cells hcs
    cases hv1
    exact ⟨⟨0, 0, 0, 0, true, none⟩, [], rfl, ⟨rfl, Nat.le_refl _, fun _ => rfl, fun hn => by cases hn⟩⟩
  · have hv1 := slice_cells hcs
    obtain ⟨e1, e2, e3⟩ : some a = ba ∧ len = n ∧ cap = c := by simp only [Value.slice.injEq] at hv1; exact ⟨hv1.1.symm, hv1.2.1.symm, hv1.2.2.symm⟩
    subst e1; subst e2; subst e3
    have hz' : zs.length = cap := by simpa using hz
    rcases Nat.eq_zero_or_pos cap with hc0 | hc0
    · subst hc0
      obtain rfl : len = 0 := by omega
      exact ⟨⟨0, 0, 0, 0, true, some a⟩, [], rfl, ⟨rfl, Nat.le_refl _, fun _ => rfl, fun hn => by cases hn⟩⟩
    · obtain ⟨b, off, spot⟩ := a
      have hspot : spot = none := by simpa [Addr.add] using World.cell?_spot (hcell 0 (by omega))
      subst hspot
      refine ⟨⟨b, off, len, cap, false, none⟩, zs.take len, rfl, ⟨by show len = (zs.take len).length; rw [List.length_take]; omega, hl, (fun hn => by cases hn), fun _ i x hi => ?_⟩⟩
      rw [List.getElem?_take] at hi
      split at hi
      · have hlt := getElem?_lt hi
        have := hcell i hlt
        rw [List.getD_eq_getElem?_getD, hi, Go.WideShapes.add_plain] at this
        exact this
      · cases hi
end Go.Proofs.YtnhilofmafjdpaaDoor
