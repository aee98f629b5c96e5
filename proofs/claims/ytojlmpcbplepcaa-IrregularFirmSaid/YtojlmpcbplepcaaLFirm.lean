/- Chapter 10: the law IrregularFirm. -/
import Derived.Test.YtojlmpcbplepcaaMd3
namespace Go.Proofs.Ytojlmpcbplepcaa
open Go Go.Eng
def q4E (a b : Q4) : Bool := decide (a.a = b.a) && (decide (a.b = b.b) && (decide (a.c = b.c) && (decide (a.d = b.d) && true)))
noncomputable def ff : Option V := some (.bool false)
noncomputable def tt : Option V := some (.bool true)
noncomputable def fmSame (R s : CD) : Option V := bif q4E R.p s.p then bif q4E R.a s.a then bif decide (R.h = s.h) then some (.bool (q4E R.f s.f)) else ff else ff else ff
noncomputable def fmTurn (y t dx : Int) : Option V := bif !decide (y = t) then tt else some (.bool (decide (dx = 103)))
noncomputable def fmE (N : NF) (s : CD) (X A : List Int) (y x : Int) : Option V :=
  bif N.OK X && (N.DK s && N.BY x) then bif N.OK X && (N.CK A && (N.DK s && (N.BY x && (N.BY y && N.AL X)))) then bif N.OK X && (N.CK A && (N.DK s && (N.BY x && N.BY y))) then
  bif !decide (N.KE s X A y x = 0) then ff else bif N.OK X then bif !(bif decide (N.KV s X A y x = 6) then decide (N.OP s X A = 101) else !decide (N.OP s X A = 101)) then ff else
  bif decide (N.KV s X A y x = 0) then bif N.OK X && (N.CK A && (N.DK s && N.BY x)) then bif decide (N.AX s X A y x = 6) then bif decide (N.RX s X A y x = 6) then bif decide (N.DX s X A x = 0) then tt else some (.bool (decide (N.DX s X A x = 5))) else ff else ff else none else
  bif decide (N.KV s X A y x = 2) then bif decide (N.AX s X A y x = 104) then bif decide (N.RX s X A y x = 0) then bif decide ((N.RS s X A y x).h = wr .u8 (x + 1)) then bif decide (x = 1) then tt else some (.bool (decide (x = 2))) else ff else ff else ff else
  bif decide (N.KV s X A y x = 6) then bif decide (N.AX s X A y x = 104) then bif decide (N.RX s X A y x = 0) then fmSame (N.RS s X A y x) s else ff else ff else
  bif decide (N.KV s X A y x = 7) then bif decide (N.AX s X A y x = 104) then bif decide (N.RX s X A y x = 0) then fmSame (N.RS s X A y x) s else ff else ff else
  bif N.OK X && (N.CK A && (N.DK s && N.BY x)) then bif N.OK X then bif decide (N.RX s X A y x = 0) then bif decide (N.AX s X A y x = 0) then fmTurn y (N.TV s X A) (N.DX s X A x) else
    bif decide (N.AX s X A y x = 104) then bif !decide (N.KV s X A y x = 1) then fmTurn y (N.TV s X A) (N.DX s X A x) else bif decide (N.AX s X A y x = 5) then fmTurn y (N.TV s X A) (N.DX s X A x) else ff else
    bif decide (N.AX s X A y x = 5) then fmTurn y (N.TV s X A) (N.DX s X A x) else ff else ff else none else none else none else none else none else none
theorem firm_eval (N : NF) (M : NMk) (d y x : Int) (ws : List Int) : evalFn Try.prog (orcK N M tabAw plainL) noLoops 100 3 Try.f3 [.int .u8 d, .gs 0, .int .u8 y, .int .u8 x] (actsH false ws) (fun v _ => some v) =
    bif M.OK d ws then fmE N (M.MC d ws) (M.ML d ws) (M.MA d ws) (y.tmod 4) (x.tmod 38) else none := by kernel_rfl
theorem q4E_self (q : Q4) : q4E q q = true := by unfold q4E; simp
theorem fmSame_self (s : CD) : fmSame s s = tt := by unfold fmSame; rw [q4E_self, q4E_self, q4E_self, decide_eq_true rfl]; rfl
theorem RC.fmE {c : CS} (h : c.Ok 160) {y : Nat} {x : Int} (hy : y < 4) (hx : 0 ≤ x ∧ x ≤ 37) : fmE nF c.s c.xs c.ac y x = tt := by
  obtain ⟨h, ho, hl⟩ := h
  obtain ⟨kd, ke⟩ := h.kd ho (by omega) hy hx.2
  have hop := h.op ho (by omega)
  have cOK : nF.OK c.xs = true := h.ok (by omega)
  have cCK : nF.CK c.ac = true := decide_eq_true (by have := h.gc.len; omega)
  have cDK : nF.DK c.s = true := h.dk
  have cBx : nF.BY x = true := by rw [show nF.BY = byB from rfl]; exact by_of (by omega)
  have cBy : nF.BY (y : Int) = true := by rw [show nF.BY = byB from rfl]; exact by_of (by omega)
  have cAL : nF.AL c.xs = true := decide_eq_true (by omega)
  have hac := h.acc (by omega) hx.1 ke kd
  have hrx : rfX c.s c.xs c.ac y x = bif decide (kdI c.s c.xs c.ac y x = 0) then 6 else 0 := by unfold rfX; rw [ke]; rfl
  have hrs : kdI c.s c.xs c.ac y x ≠ 0 → rfC c.s c.xs c.ac y x = rfS (kdI c.s c.xs c.ac y x) c.s y x := fun hk => by
    unfold rfC
    rw [hrx, decide_eq_false hk]; rfl
  unfold Go.Proofs.Ytojlmpcbplepcaa.fmE
  rw [cOK, cCK, cDK, cBx, cBy, cAL, show nF.KE c.s c.xs c.ac y x = keI c.s c.xs c.ac y x from rfl, ke, show nF.KV c.s c.xs c.ac y x = kdI c.s c.xs c.ac y x from rfl, show nF.DX c.s c.xs c.ac x = doX c.s c.xs c.ac x from rfl, show nF.AX c.s c.xs c.ac y x = (acI c.s c.xs c.ac y x).e from rfl, show nF.RX c.s c.xs c.ac y x = rfX c.s c.xs c.ac y x from rfl,
    show nF.OP c.s c.xs c.ac = opI c.s c.xs c.ac from rfl, hop, show nF.RS c.s c.xs c.ac y x = rfC c.s c.xs c.ac y x from rfl, show nF.TV c.s c.xs c.ac = tuV c.s c.xs c.ac from rfl, hrx]
  have turn : ovI c.s.d c.xs = false → tuV c.s c.xs c.ac = (tN c.s c.xs : Int) := fun hv => by
    unfold tuV
    rw [hop, hv]
    exact (tN_lt c.s c.xs (h.ok (by omega)) (by have := h.d; omega)).1
  have nodo : ovI c.s.d c.xs = false → lgI c.s c.xs x = false → doX c.s c.xs c.ac x = 103 := fun hv hg => by
    unfold doX
    rw [hop, hv, hg]; rfl
  generalize hk : kdI c.s c.xs c.ac y x = k at *
  have tn4 := (h.tnn (by omega)).2
  cases kd with
  | none h1 h2 h3 =>
    rw [h1, h.dox ho (by omega) h1 h3]
    rcases hac with ⟨_, q, _⟩ | ⟨q, _⟩ | ⟨_, q, _⟩ | ⟨_, _, q⟩
    · cases q
    · rw [q]; rfl
    · exact absurd rfl q
    · cases q
  | double h1 h2 h3 h4 h5 h6 =>
    have e : (acI c.s c.xs c.ac y x).e = 104 := by
      rcases hac with ⟨_, q, _⟩ | ⟨_, q⟩ | ⟨q, _⟩ | ⟨_, _, q⟩
      · cases q
      · omega
      · exact q
      · cases q
    rw [h1, e, hrs (by omega)]
    show (bif decide (wr .u8 (x + 1) = wr .u8 (x + 1)) then bif decide (x = 1) then tt else some (.bool (decide (x = 2))) else ff) = tt
    rw [decide_eq_true rfl]
    rcases h5 with rfl | rfl <;> rfl
  | after h1 =>
    have e : (acI c.s c.xs c.ac y x).e = 104 := by
      rcases hac with ⟨_, q, _⟩ | ⟨_, q⟩ | ⟨q, _⟩ | ⟨_, _, q⟩
      · cases q
      · omega
      · exact q
      · cases q
    rw [h1, e, hrs (by omega)]
    exact fmSame_self c.s
  | forced h1 h2 h3 h4 h5 =>
    have e : (acI c.s c.xs c.ac y x).e = 104 := by
      rcases hac with ⟨_, q, _⟩ | ⟨_, q⟩ | ⟨q, _⟩ | ⟨_, _, q⟩
      · cases q
      · omega
      · exact q
      · cases q
    rw [h1, e, hrs (by omega)]
    exact fmSame_self c.s
  | low h1 h2 h3 h4 =>
    have ft : fmTurn y (tuV c.s c.xs c.ac) (doX c.s c.xs c.ac x) = tt := by
      unfold fmTurn; rw [turn h1, nodo h1 h3, decide_eq_true (show (y : Int) = (tN c.s c.xs : Int) by omega)]; rfl
    rw [h1]
    rcases hac with ⟨q, _⟩ | ⟨_, q⟩ | ⟨_, _, q⟩ | ⟨q, _⟩
    · rw [q]; exact ft
    · omega
    · omega
    · rw [q]; exact ft
  | right h1 h2 =>
    have ft : fmTurn y (tuV c.s c.xs c.ac) (doX c.s c.xs c.ac x) = tt := by
      unfold fmTurn; rw [turn h1, decide_eq_false (show ¬ (y : Int) = (tN c.s c.xs : Int) by omega)]; rfl
    rw [h1]
    rcases hac with ⟨q, _⟩ | ⟨_, q⟩ | ⟨q, _⟩ | ⟨q, _⟩
    · rw [q]; exact ft
    · omega
    · rw [q]; exact ft
    · rw [q]; exact ft
  | partner h1 h2 =>
    have ft : fmTurn y (tuV c.s c.xs c.ac) (doX c.s c.xs c.ac x) = tt := by
      unfold fmTurn; rw [turn h1, decide_eq_false (show ¬ (y : Int) = (tN c.s c.xs : Int) by omega)]; rfl
    rw [h1]
    rcases hac with ⟨q, _⟩ | ⟨_, q⟩ | ⟨q, _⟩ | ⟨q, _⟩
    · rw [q]; exact ft
    · omega
    · rw [q]; exact ft
    · rw [q]; exact ft
  | left h1 h2 =>
    have ft : fmTurn y (tuV c.s c.xs c.ac) (doX c.s c.xs c.ac x) = tt := by
      unfold fmTurn; rw [turn h1, decide_eq_false (show ¬ (y : Int) = (tN c.s c.xs : Int) by omega)]; rfl
    rw [h1]
    rcases hac with ⟨q, _⟩ | ⟨_, q⟩ | ⟨q, _⟩ | ⟨q, _⟩
    · rw [q]; exact ft
    · omega
    · rw [q]; exact ft
    · rw [q]; exact ft
theorem firm_true {d y x : Int} {ws : List Int} (hd : 0 ≤ d) (hw : okW ws = true) (hy : 0 ≤ y) (hx : 0 ≤ x) : evalFn Try.prog (orcK nF nMk tabAw plainL) noLoops 100 3 Try.f3 [.int .u8 d, .gs 0, .int .u8 y, .int .u8 x] (actsH false ws) (fun v _ => some v) = some (.bool true) := by
  rw [firm_eval, show nMk.OK d ws = true by show (decide (0 ≤ d) && okW ws) = true; rw [decide_eq_true hd, hw]; rfl, cond_true]
  obtain ⟨n, hn⟩ : ∃ n : Nat, y.tmod 4 = n := ⟨(y.tmod 4).toNat, by rw [Int.tmod_eq_emod_of_nonneg hy]; omega⟩
  have hx38 : 0 ≤ x.tmod 38 ∧ x.tmod 38 ≤ 37 := by rw [Int.tmod_eq_emod_of_nonneg hx]; omega
  have hn4 : n < 4 := by rw [Int.tmod_eq_emod_of_nonneg hy] at hn; omega
  rw [hn]
  exact RC.fmE (made_ok hd hw).1 hn4 hx38
end Go.Proofs.Ytojlmpcbplepcaa
