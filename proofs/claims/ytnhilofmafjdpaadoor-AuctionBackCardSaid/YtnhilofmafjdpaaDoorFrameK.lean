/- Chapter 9: a contract (four bytes) as an argument. -/
import Derived.Test.YtnhilofmafjdpaaDoorFrameN
import Derived.WideKeyPair
namespace Go.Proofs.YtnhilofmafjdpaaDoor
open Go Go.Eng Go.ChangeShapes Go.WideShapes Go.ChangeAt Go.RowKit Go.WideMaps
theorem fields23 : ∃ n0 n1 n2 n3, ∃ f0 f1 f2 f3 : Field, Tryd.prog.underlying 23 = some (.struct #[f0, f1, f2, f3]) ∧ (f0.name, f1.name, f2.name, f3.name) = (n0, n1, n2, n3) ∧ (f0.type = 5 ∧ f1.type = 5 ∧ f2.type = 5 ∧ f3.type = 5) ∧ (f0.offset = 0 ∧ f1.offset = 1 ∧ f2.offset = 2 ∧ f3.offset = 3) :=
  ⟨_, _, _, _, _, _, _, _, Tryd.underlying23, rfl, ⟨rfl, rfl, rfl, rfl⟩, ⟨rfl, rfl, rfl, rfl⟩⟩
theorem cells23 : Tryd.prog.cellsOf 23 = 4 := by kernel_rfl
variable {H : Type} {enc : TypeId × Value → H} {W : World} {base : Nat} {sp : Nat → Bool} {held : Bool}
set_option maxRecDepth 100000 in
theorem open_con {r : Reach} {b0 : Nat} {v : Value} {d : DataW H} {ps : List MemPlace} (hval : Value.okWide Tryd.prog W r b0 23 v) (hd : DataW.Trod enc Tryd.prog W base sp held 23 v d ps) :
    ∃ x0 x1 x2 x3 : Int, v = .agg #[.int .u8 x0, .int .u8 x1, .int .u8 x2, .int .u8 x3] ∧ d = .agg [.lit (.int .u8 x0), .lit (.int .u8 x1), .lit (.int .u8 x2), .lit (.int .u8 x3)] ∧ ps = [] ∧
      (Lit.int .u8 x0).wf = true ∧ (Lit.int .u8 x1).wf = true ∧ (Lit.int .u8 x2).wf = true ∧ (Lit.int .u8 x3).wf = true := by
  obtain ⟨n0, n1, n2, n3, f0, f1, f2, f3, hu, _, ⟨t0, t1, t2, t3⟩, o0, o1, o2, o3⟩ := fields23
  obtain ⟨c0, c1, c2, c3, rfl⟩ : ∃ c0 c1 c2 c3, v = .agg #[c0, c1, c2, c3] := by
    simp only [Value.okWide, hu] at hval
    obtain ⟨cs, h1, h2, _⟩ := hval
    rw [cells23] at h2
    obtain ⟨l⟩ := cs
    match l, h2 with
    | [c0, c1, c2, c3], _ => exact ⟨c0, c1, c2, c3, h1⟩
  obtain ⟨fuel, hf⟩ := hd
  cases fuel with
  | zero => simp [DataW.trod] at hf
  | succ n =>
    rw [DataW.trod_step] at hf
    unfold DataW.trodStep at hf
    simp only [hu, Value.cells] at hf
    rw [if_pos (by rw [cells23]; rfl)] at hf
    simp only [Option.map_eq_some_iff] at hf
    obtain ⟨xs, hx, e1⟩ := hf
    rw [List.mapM_cons, List.mapM_cons, List.mapM_cons, List.mapM_cons, List.mapM_nil] at hx
    simp only [bind, Option.bind_eq_some_iff, pure, Option.some.injEq, t0, t1, t2, t3, o0, o1, o2, o3, cells5] at hx
    obtain ⟨y0, h0, _, ⟨y1, h1, _, ⟨y2, h2, _, ⟨y3, h3, _, rfl, rfl⟩, rfl⟩, rfl⟩, rfl⟩ := hx
    obtain ⟨x0, e0, rfl, w0⟩ := DataW.trod_int Tryd.underlying5 h0
    obtain ⟨x1, e1', rfl, w1⟩ := DataW.trod_int Tryd.underlying5 h1
    obtain ⟨x2, e2, rfl, w2⟩ := DataW.trod_int Tryd.underlying5 h2
    obtain ⟨x3, e3, rfl, w3⟩ := DataW.trod_int Tryd.underlying5 h3
    simp at e0 e1' e2 e3
    subst e0; subst e1'; subst e2; subst e3
    simp only [Prod.mk.injEq] at e1
    exact ⟨x0, x1, x2, x3, rfl, by rw [← e1.1]; rfl, by rw [← e1.2]; rfl, w0, w1, w2, w3⟩
theorem shut_con {x0 x1 x2 x3 : Int} (w0 : (Lit.int .u8 x0).wf = true) (w1 : (Lit.int .u8 x1).wf = true) (w2 : (Lit.int .u8 x2).wf = true) (w3 : (Lit.int .u8 x3).wf = true) :
    DataW.Trod enc Tryd.prog W base sp held 23 (.agg #[.int .u8 x0, .int .u8 x1, .int .u8 x2, .int .u8 x3]) (.agg [.lit (.int .u8 x0), .lit (.int .u8 x1), .lit (.int .u8 x2), .lit (.int .u8 x3)]) [] := by
  obtain ⟨n0, n1, n2, n3, f0, f1, f2, f3, hu, _, ⟨t0, t1, t2, t3⟩, o0, o1, o2, o3⟩ := fields23
  refine ⟨2, ?_⟩
  have key : ∀ {x : Int}, (Lit.int .u8 x).wf = true → DataW.trod enc Tryd.prog W base sp held 1 5 [.int .u8 x] = some (.lit (.int .u8 x), []) := fun {x} wx => by
    show DataW.trod enc Tryd.prog W base sp held (0 + 1) 5 [.int .u8 x] = _
    rw [DataW.trod_step]
    unfold DataW.trodStep
    simp [Tryd.underlying5, wx]
  show DataW.trod enc Tryd.prog W base sp held (1 + 1) 23 _ = _
  rw [DataW.trod_step]
  unfold DataW.trodStep
  simp only [hu, Value.cells]
  rw [if_pos (by rw [cells23]; rfl)]
  simp [t0, t1, t2, t3, o0, o1, o2, o3, cells5, key w0, key w1, key w2, key w3]
end Go.Proofs.YtnhilofmafjdpaaDoor
