/- Texts merged: Yt, Wg, Yu, FrameA. -/
import Derived.Test.YtojlmpcbplepcaaYr
import Derived.Test.YtojlmpcbplepcaaSp2
import Derived.Test.YtojlmpcbplepcaaMd3
import Derived.Test.YtojlmpcbplepcaaEng4
import Derived.Test.YtojlmpcbplepcaaEng5
/- Chapter 10: the law's played: its loop. -/
namespace Go.Proofs.Ytojlmpcbplepcaa
open Go Go.Eng
theorem loop_of_roundsPy {P : Program} {L : Loops} {N n0 : Nat} {rd : Option Nat} {me : FuncId} {c : Code} {T : Tm} {T' : XE → Tm} (hm : P.follows .mixedOrders = true) (hl : loopsOk P L) (hk : T.ok = true) (hk' : ∀ e, (T' e).ok = true)
    {X : Type} (C : X → Oracle) (hC : ∀ x, OracleOk P (C x)) (enc : X → List PV) (inv : X → Prop) (μ : X → Nat) (fin : X → XE × List PV)
    (round : ∀ x, inv x → ∃ e qs l, roundX P (C x) L N n0 rd me c T T T' (enc x) = some (e, qs, l) ∧ codesOk l ∧
      ((e = .normal ∧ ∃ y, qs = enc y ∧ inv y ∧ μ y < μ x ∧ fin y = fin x) ∨ (e ≠ .normal ∧ (e, qs) = fin x))) :
    ∀ x, inv x → ∃ n, SimL P n0 rd c n (T.at (enc x)) (fin x).1 ((T' (fin x).1).at (fin x).2) := by
  have key : ∀ m x, μ x = m → inv x → ∃ n, SimL P n0 rd c n (T.at (enc x)) (fin x).1 ((T' (fin x).1).at (fin x).2) := by
    intro m
    induction m using Nat.strongRecOn with
    | _ m ih =>
      intro x hm' hx
      obtain ⟨e, qs, l, h1, h2, h3⟩ := round x hx
      obtain ⟨q1, q2⟩ := roundX_sim (hC x) hm hl hk hk' h1 h2
      rcases h3 with ⟨rfl, y, rfl, hy, hlt, hf⟩ | ⟨hne, hf⟩
      · obtain ⟨n, hn⟩ := ih (μ y) (hm' ▸ hlt) y rfl hy
        rw [hf] at hn
        exact ⟨n + 1, (q1 rfl).step hn⟩
      · rw [← hf]
        exact ⟨1, (q2 hne).leave hne⟩
  exact fun x hx => key _ x rfl hx
def pyL2 (N : NPy) (sh : Nat) : CF3 (List Int) := fun s xs ac X B W => match sh with
  | 0 => N.L 0 s xs ac X B W
  | 1 => N.L 1 s xs ac X B W
  | _ => xs
def pyK2 (N : NPy) (sh : Nat) : CF3 (List Int) := fun s xs ac X B W => match sh with
  | 1 => N.K 1 s xs ac X B W
  | _ => ac
noncomputable def pyE (N : NPy) (sh : Nat) (n i : Int) (ws : List Int) (s : CD) (xs ac : List Int) (X B W : Int) : Option (XE × List PV × List (Code × Code)) :=
  bif N.G s xs ac && N.S sh s xs ac X B W then bif N.G s xs ac && (N.BY (N.Y s xs ac X B W) && N.BY (N.X s xs ac X B W)) then some (.normal, pyIn n (wr .i64 (i + 1)) ws (N.R sh s xs ac X B W) (pyL2 N sh s xs ac X B W) (pyK2 N sh s xs ac X B W), []) else none else none
theorem py_round (N : NPy) (rd : Option Nat) (n i : Int) (ws xs ac : List Int) (s : CD) : ∀ sh : Nat, sh < 3 → roundX Try.prog (orcPy N sh) noLoops 100 1 rd 27 pyLp pyT pyT (fun _ => pyX) (pyIn n i ws s xs ac) =
    bif decide (i < n) then bif decide (0 ≤ i ∧ i < Int.ofNat (ws.length / 3)) then bif decide (i.toNat * 3 + 3 ≤ ws.length) then pyE N sh n i ws s xs ac (aX ws (i.toNat * 3)) (aB ws (i.toNat * 3)) (aW ws (i.toNat * 3)) else none else none else some (.exit 0, .l ws :: s.pv [.l xs, .l ac], [])
  | 0, _ => by kernel_rfl
  | 1, _ => by kernel_rfl
  | 2, _ => by kernel_rfl
  | n + 3, h => absurd h (by omega)
structure PyC where
  s : CD
  xs : List Int
  ac : List Int
def pySh (c : PyC) (X B W : Int) : Nat := bif nxI c.s c.xs c.ac (nxY c.s c.xs c.ac B W) (nxX c.s c.xs c.ac X W) then 0 else bif decide (W.tmod 3 = 0) && decide ((acI c.s c.xs c.ac (nxY c.s c.xs c.ac B W) (nxX c.s c.xs c.ac X W)).e = 0) then 1 else 2
theorem pySh_lt (c : PyC) (X B W : Int) : pySh c X B W < 3 := by
  unfold pySh
  cases nxI c.s c.xs c.ac (nxY c.s c.xs c.ac B W) (nxX c.s c.xs c.ac X W) <;> cases (decide (W.tmod 3 = 0) && decide ((acI c.s c.xs c.ac (nxY c.s c.xs c.ac B W) (nxX c.s c.xs c.ac X W)).e = 0)) <;> decide
theorem pySh_ok (c : PyC) {X B W : Int} (hX : byB X = true) : pyS (pySh c X B W) c.s c.xs c.ac X B W = true := by
  unfold pySh pyS
  rw [hX]
  cases h1 : nxI c.s c.xs c.ac (nxY c.s c.xs c.ac B W) (nxX c.s c.xs c.ac X W) <;> cases h2 : (decide (W.tmod 3 = 0) && decide ((acI c.s c.xs c.ac (nxY c.s c.xs c.ac B W) (nxX c.s c.xs c.ac X W)).e = 0)) <;> rfl
def PyC.act (c : PyC) (X B W : Int) : PyC := ⟨pyR (pySh c X B W) c.s c.xs c.ac X B W, pyL2 nPy (pySh c X B W) c.s c.xs c.ac X B W, pyK2 nPy (pySh c X B W) c.s c.xs c.ac X B W⟩
structure PyC.Ok (c : PyC) (n : Nat) : Prop where
  b : crB c.s = true
  u : allU c.xs = true
  l : c.xs.length ≤ n
  m : c.ac.length ≤ n
theorem PyC.Ok.g {c : PyC} {n : Nat} (h : c.Ok n) (hn : n ≤ 5000) : gTl c.s c.xs c.ac = true := gTl_iff.2 ⟨h.b, h.u, by have := h.l; omega, by have := h.m; omega⟩
theorem PyC.Ok.act {c : PyC} {n : Nat} (h : c.Ok n) {X B W : Int} (hX : byB X = true) : (c.act X B W).Ok (n + 4) := by
  obtain ⟨hb, hu, hl, hm⟩ := h
  have hx := nxX_by (s := c.s) (xs := c.xs) (ac := c.ac) (W := W) hX
  have lt := pySh_lt c X B W
  unfold PyC.act
  generalize pySh c X B W = sh at lt
  match sh, lt with
  | 0, _ =>
    obtain ⟨a1, a2⟩ := doL_b (s := c.s) (ac := c.ac) hu hx
    exact ⟨crB_do hb _ _ _, a1, Nat.le_trans a2 (by omega), by show c.ac.length ≤ n + 4; omega⟩
  | 1, _ =>
    have := acI_b hb hu c.ac (nxY c.s c.xs c.ac B W) hx
    exact ⟨this.c, this.u, Nat.le_trans this.l (by omega), Nat.le_trans this.m (by omega)⟩
  | 2, _ =>
    refine ⟨?_, hu, by show c.xs.length ≤ n + 4; omega, by show c.ac.length ≤ n + 4; omega⟩
    show crB (nxS c.s c.xs c.ac W (nxY c.s c.xs c.ac B W) (nxX c.s c.xs c.ac X W)) = true
    unfold nxS
    cases decide (W.tmod 3 = 0) with
    | true => exact hb
    | false =>
      rw [cond_false]
      cases decide (rfX c.s c.xs c.ac (nxY c.s c.xs c.ac B W) (nxX c.s c.xs c.ac X W) = 0) with
      | true => exact crB_rf hb _ _ _ _
      | false => exact hb
  | k + 3, h => exact absurd h (by omega)
def pyR2 (ws : List Int) : Nat → Nat → PyC → PyC
  | 0, _, c => c
  | n + 1, i, c => pyR2 ws n (i + 1) (c.act (aX ws (i * 3)) (aB ws (i * 3)) (aW ws (i * 3)))
theorem pyR2_ok {ws : List Int} (hw : okW ws = true) : ∀ (n i : Nat) (c : PyC) (m : Nat), c.Ok m → (i + n) * 3 ≤ ws.length → (pyR2 ws n i c).Ok (m + 4 * n)
  | 0, _, _, _, h, _ => h
  | n + 1, i, c, m, h, hl => by
    have := pyR2_ok hw n (i + 1) _ (m + 4) (h.act (B := aB ws (i * 3)) (W := aW ws (i * 3)) (okW_at hw (show i * 3 < ws.length by omega))) (by omega)
    rw [show m + 4 * (n + 1) = m + 4 + 4 * n by omega]
    exact this
theorem py_loop (rd : Option Nat) (ws : List Int) (k : Nat) (hk : k ≤ 1000) (hkw : k = ws.length / 3) (hw : okW ws = true) : ∀ x : Nat × PyC, (x.1 ≤ k ∧ x.2.Ok (4 * x.1)) →
    ∃ m, SimL Try.prog 1 rd pyLp m (pyT.at (pyIn (k : Int) (x.1 : Int) ws x.2.s x.2.xs x.2.ac)) (.exit 0) (pyX.at (.l ws :: (pyR2 ws (k - x.1) x.1 x.2).s.pv [.l (pyR2 ws (k - x.1) x.1 x.2).xs, .l (pyR2 ws (k - x.1) x.1 x.2).ac])) := by
  refine loop_of_roundsPy (L := noLoops) (N := 100) (me := 27) (T := pyT) (T' := fun _ => pyX) mixed noLoops_ok (by kernel_rfl) (fun _ => by kernel_rfl) (X := Nat × PyC)
    (fun x => orcPy nPy (pySh x.2 (aX ws (x.1 * 3)) (aB ws (x.1 * 3)) (aW ws (x.1 * 3)))) (fun _ => orcPy_ok _)
    (fun x => pyIn (k : Int) (x.1 : Int) ws x.2.s x.2.xs x.2.ac) (fun x => x.1 ≤ k ∧ x.2.Ok (4 * x.1)) (fun x => k - x.1) (fun x => (.exit 0, .l ws :: (pyR2 ws (k - x.1) x.1 x.2).s.pv [.l (pyR2 ws (k - x.1) x.1 x.2).xs, .l (pyR2 ws (k - x.1) x.1 x.2).ac])) ?_
  rintro ⟨i, c⟩ ⟨hi, hc⟩
  dsimp only at hi hc ⊢
  have key := py_round nPy rd (k : Int) (i : Int) ws c.xs c.ac c.s (pySh c (aX ws (i * 3)) (aB ws (i * 3)) (aW ws (i * 3))) (pySh_lt _ _ _ _)
  rcases Nat.lt_or_ge i k with hlt | hge
  · have hin : i * 3 + 3 ≤ ws.length := by omega
    have hX : byB (aX ws (i * 3)) = true := okW_at hw (by omega)
    have hg := hc.g (by omega)
    have z1 : Int.ofNat (ws.length / 3) = ((ws.length / 3 : Nat) : Int) := rfl
    rw [z1, decide_eq_true (show (i : Int) < (k : Int) by omega), cond_true, decide_eq_true (show 0 ≤ (i : Int) ∧ (i : Int) < ((ws.length / 3 : Nat) : Int) by omega), cond_true, show ((i : Int)).toNat = i from rfl, decide_eq_true hin, cond_true] at key
    unfold pyE at key
    rw [show nPy.G c.s c.xs c.ac = true from hg, show nPy.S (pySh c (aX ws (i * 3)) (aB ws (i * 3)) (aW ws (i * 3))) c.s c.xs c.ac (aX ws (i * 3)) (aB ws (i * 3)) (aW ws (i * 3)) = true from pySh_ok c hX,
      show nPy.BY (nPy.Y c.s c.xs c.ac (aX ws (i * 3)) (aB ws (i * 3)) (aW ws (i * 3))) = true from nxY_by _ _ _ _ _, show nPy.BY (nPy.X c.s c.xs c.ac (aX ws (i * 3)) (aB ws (i * 3)) (aW ws (i * 3))) = true from nxX_by hX, wr64 (n := (i : Int) + 1) (by omega) (by omega)] at key
    refine ⟨_, _, _, key, codesNil, .inl ⟨rfl, (i + 1, c.act (aX ws (i * 3)) (aB ws (i * 3)) (aW ws (i * 3))), rfl, ⟨by dsimp only; omega, by dsimp only; rw [show 4 * (i + 1) = 4 * i + 4 by omega]; exact hc.act hX⟩, by dsimp only; omega, ?_⟩⟩
    dsimp only
    rw [show k - i = (k - (i + 1)) + 1 by omega]; rfl
  · rw [decide_eq_false (show ¬ (i : Int) < (k : Int) by omega), cond_false] at key
    refine ⟨_, _, _, key, codesNil, .inr ⟨by simp, ?_⟩⟩
    rw [show k - i = 0 by omega]; rfl
end Go.Proofs.Ytojlmpcbplepcaa

/- Chapter 10: IrregularWrong: its oracle. -/
namespace Go.Proofs.Ytojlmpcbplepcaa
open Go Go.Eng
end Go.Proofs.Ytojlmpcbplepcaa

/- Chapter 10: the law IrregularGoes. -/
namespace Go.Proofs.Ytojlmpcbplepcaa
open Go Go.Eng
structure NPz where
  PS : List Int → CD → CD
  PL : List Int → CD → List Int
  PK : List Int → CD → List Int
def pyZ (ws : List Int) (s : CD) : PyC := pyR2 ws (ws.length / 3) 0 ⟨s, [], []⟩
def nPz : NPz := ⟨fun ws s => (pyZ ws s).s, fun ws s => (pyZ ws s).xs, fun ws s => (pyZ ws s).ac⟩
def pyD (n i : Int) (ws : List Int) (s : CD) (xs ac : List Int) : Prop := n = Int.ofNat (ws.length / 3) ∧ i = 0 ∧ ws.length / 3 ≤ 1000 ∧ okW ws = true ∧ xs = [] ∧ ac = [] ∧ crB s = true
noncomputable def tPy (Z : NPz) : List PV → Fin
  | .i n :: .i i :: .l ws :: ps => match crsP ps with
    | some (s, [.l xs, .l ac]) => .br (pB (pyD n i ws s xs ac)) (.leaf (.exit 0) (pyX.at (.l ws :: (Z.PS ws s).pv [.l (Z.PL ws s), .l (Z.PK ws s)]))) .no
    | _ => .no
  | _ => .no
noncomputable def lPy (Z : NPz) : Loops := sums (fun n => match n with | 2 => some (lsumD 1 pyT pyLp (tPy Z) noSum) | _ => none)
theorem lPy_ok : loopsOk Try.prog (lPy nPz) := by
  intro n g hg
  simp only [lPy, sums] at hg
  split at hg
  · cases hg
    refine lsumD_ok (by kernel_rfl) (fun rd ps e st h => ?_) noSum_ok
    unfold tPy at h
    split at h
    · rename_i n i ws ps
      split at h
      · rename_i s xs ac hs
        rw [crsP_ok hs]
        obtain ⟨⟨rfl, rfl, h1, h2, rfl, rfl, h3⟩, rfl, rfl⟩ := pick1 h
        obtain ⟨m, hm⟩ := py_loop rd ws (ws.length / 3) h1 rfl h2 (0, ⟨s, [], []⟩) ⟨Nat.zero_le _, h3, rfl, Nat.le_refl _, Nat.le_refl _⟩
        exact hm.loop
      · cases h
    · cases h
  · cases hg
noncomputable def LLgo (Z : NPz) : FuncId → Loops := fun f => match Nat.beq f 27 with | true => lPy Z | false => noLoops
theorem LLgo_ok : ∀ f, loopsOk Try.prog (LLgo nPz f) := fun f => by
  unfold LLgo
  split
  · exact lPy_ok
  · exact noLoops_ok
noncomputable abbrev orcGo (N : NPy) (Z : NPz) : Oracle := inl Try.prog ftab tabAw (LLgo Z) 100 never d27 (orElse is58 (hOrcS nrC (h27 N 0)) (hOrcX nrC (h27 N 0))) 20
theorem orcGo_ok : OracleOk Try.prog (orcGo nPy nPz) := inl_ok (orElse_ok (hOrcS_ok (h27_ok 0)) (hOrcX_ok (h27_ok 0))) ftab_ok tabAw_ok LLgo_ok mixed 20
def g0 (d : Int) : CD := ⟨d.tmod 4, q0, q0, 0, q0⟩
noncomputable def goE (N : NPy) (Z : NPz) (d : Int) (ws : List Int) : Option V := bif decide (40 < Int.ofNat (ws.length / 3)) then some (.bool true) else
  cond (codesB [(pyLp, pyLp)]) (bif pB (pyD (Int.ofNat (ws.length / 3)) 0 ws (g0 d) [] []) then bif N.G (Z.PS ws (g0 d)) (Z.PL ws (g0 d)) (Z.PK ws (g0 d)) && (N.BY 0 && N.BY 0) then some (.bool true) else none else none) none
theorem goes_eval (N : NPy) (Z : NPz) (d : Int) (ws : List Int) : evalFn Try.prog (orcGo N Z) noLoops 100 6 Try.f6 [.int .u8 d, .gs 0] (actsH false ws) (fun v _ => some v) = goE N Z d ws := by kernel_rfl
theorem goes_true {d : Int} {ws : List Int} (hd : 0 ≤ d) (hw : okW ws = true) : evalFn Try.prog (orcGo nPy nPz) noLoops 100 6 Try.f6 [.int .u8 d, .gs 0] (actsH false ws) (fun v _ => some v) = some (.bool true) := by
  rw [goes_eval]
  unfold goE
  have hof : Int.ofNat (ws.length / 3) = ((ws.length / 3 : Nat) : Int) := rfl
  by_cases h4 : 40 < Int.ofNat (ws.length / 3)
  · rw [decide_eq_true h4]; rfl
  · rw [decide_eq_false h4, cond_false]
    rw [hof] at h4
    have hc : crB (g0 d) = true := by
      have : 0 ≤ d.tmod 4 ∧ d.tmod 4 < 256 := by rw [Int.tmod_eq_emod_of_nonneg hd]; omega
      exact crB_iff.2 ⟨decide_eq_true this, rfl, fun k => by match k with | 0 => rfl | 1 => rfl | 2 => rfl | n + 3 => rfl, fun k => by match k with | 0 => rfl | 1 => rfl | 2 => rfl | n + 3 => rfl⟩
    have hz := pyR2_ok hw (ws.length / 3) 0 ⟨g0 d, [], []⟩ 0 ⟨hc, rfl, Nat.le_refl _, Nat.le_refl _⟩ (by omega)
    have hg : gTl (pyZ ws (g0 d)).s (pyZ ws (g0 d)).xs (pyZ ws (g0 d)).ac = true := PyC.Ok.g hz (by omega)
    rw [lpCd10, show pB (pyD (Int.ofNat (ws.length / 3)) 0 ws (g0 d) [] []) = true from pB_iff.2 ⟨rfl, rfl, by omega, hw, rfl, rfl, hc⟩, show nPy.G (nPz.PS ws (g0 d)) (nPz.PL ws (g0 d)) (nPz.PK ws (g0 d)) = true from hg]; rfl
end Go.Proofs.Ytojlmpcbplepcaa

/- Chapter 10: the frame of a law over a slice of acts. -/
namespace Go.Proofs.Ytojlmpcbplepcaa
open Go Go.Eng Go.ChangeShapes Go.WideShapes Go.ChangeAt Go.RowKit Go.WideMaps
set_option linter.unusedVariables false
theorem own10 : ownKnob Try.prog.godebug = none := by kernel_rfl
theorem laidOut10 : laidOutB Try.prog = true := by kernel_rfl
theorem tri10 : TriKey Try.prog 41 5 := ⟨⟨_, Try.underlying41, by kernel_rfl⟩, by kernel_rfl, by kernel_rfl⟩
def envZ (a : Option Addr) : Env := { blk := fun _ => 0, delta := fun _ => 0, len := fun _ => 0, cap := fun _ => 0, isnil := fun _ => true, base := fun _ => a }
theorem holdsZ {W : World} (a : Option Addr) : Holds (envZ a) (actsH false []) W := by
  refine ⟨fun i blk hb => ?_, fun i j x y hi _ hm => ?_⟩
  · cases i with
    | zero =>
      simp only [actsH, List.getElem?_cons_zero, Option.some.injEq] at hb
      subst hb
      exact ⟨rfl, by omega, rfl, Nat.le_refl _, fun _ => ⟨rfl, rfl⟩, fun h => by cases h⟩
    | succ i => simp [actsH] at hb
  · cases i with
    | zero => simp only [actsH, List.getElem?_cons_zero, Option.some.injEq] at hi; subst hi; cases hm
    | succ i => simp [actsH] at hi
theorem holdsA {W : World} {b off len cap : Nat} {xs : List Int} (hx : xs.length = 3 * len) (hc : len ≤ cap) (hcell : ∀ (i : Nat) x, xs[i]? = some x → W.cell? ⟨b, off + i, none⟩ = some (.int .u8 x)) : Holds (envS b off len cap) (actsH false xs) W := by
  have h := soft_holds (holdsTri (k := .u8) hx hc hcell)
  exact h
theorem okW_of {ws : List Int} (hl : ws.length % 3 = 0) (hw : ∀ n ∈ ws, (Lit.int .u8 n).wf = true) : okW ws = true := by
  refine okW_iff.2 ⟨hl, ?_⟩
  rw [allU_iff]
  intro c hc
  have := hw c hc
  simp only [Lit.wf, IntKind.min, IntKind.max, IntKind.signed, IntKind.bits, Bool.and_eq_true] at this
  simp at this
  omega
theorem u8_pos {a : Int} (w : (Lit.int .u8 a).wf = true) : 0 ≤ a := by
  simp only [Lit.wf, IntKind.min, IntKind.max, IntKind.signed, IntKind.bits, Bool.and_eq_true] at w
  simp at w
  omega
theorem open_acts {H : Type} {enc : TypeId × Value → H} {W : World} {base : Nat} {ba : Option Addr} {n c : Nat} {d : DataW H} {p : List MemPlace} (h : DataW.Trod enc Try.prog W base (fun _ => true) true 22 (.slice ba n c) d p) :
    ∃ (ws : List Int) (E : Env), okW ws = true ∧ Holds E (actsH false ws) W ∧ conc E (.gs 0) = .slice ba n c := by
  obtain ⟨fuel, hf⟩ := h
  rcases open_tris Try.underlying22 tri10 Try.underlying5 hf with hcs | ⟨a, len, cap, zs, hcs, hl, hm, hz, hcell, hwz⟩
  · have hv1 := slice_cells hcs
    cases hv1
    exact ⟨[], envZ none, rfl, holdsZ none, rfl⟩
  · have hv1 := slice_cells hcs
    obtain ⟨e1, e2, e3⟩ : some a = ba ∧ len = n ∧ cap = c := by simp only [Value.slice.injEq] at hv1; exact ⟨hv1.1.symm, hv1.2.1.symm, hv1.2.2.symm⟩
    subst e1; subst e2; subst e3
    rcases Nat.eq_zero_or_pos cap with hc0 | hc0
    · subst hc0
      obtain rfl : len = 0 := by omega
      exact ⟨[], envZ (some a), rfl, holdsZ (some a), rfl⟩
    · obtain ⟨b, off, rfl, hat⟩ := ints_at hcell (by omega)
      refine ⟨zs.take (3 * len), envS b off len cap, okW_of (by rw [List.length_take]; omega) (fun n hn => hwz n (List.mem_of_mem_take hn)), holdsA (by rw [List.length_take]; omega) hl (fun i x hi => ?_), by simp [conc, envS]⟩
      rw [List.getElem?_take] at hi
      split at hi
      · have hlt := getElem?_lt hi
        rw [hat i hlt, List.getD_eq_getElem?_getD, hi]
        rfl
      · cases hi
theorem calls_acts {O : Oracle} (hO : OracleOk Try.prog O) {L : Loops} (hL : loopsOk Try.prog L) {N : Nat} {f : FuncId} {fn : Func} (hf : Try.prog.funcs[f]? = some fn) {args : List V} {ws : List Int} (he : evalFn Try.prog O L N f fn args (actsH false ws) (fun v _ => some v) = some (.bool true)) {E : Env} {W : World} (hh : Holds E (actsH false ws) W) (hin : inSs 1 args = true) :
    Calls Try.prog f (concs E args).toArray W fun e w' => e = .returned (.bool true) ∧ RowKit.Below W.heap.size W w' := by
  obtain ⟨v1, h1, hk, hok⟩ := evalFn_ok hO mixed hf hL he
  cases hk
  refine (hok E W hh hin).mono ?_
  rintro e w' ⟨x, E', rfl, hx, _, ht⟩
  exact ⟨by rw [hx.bool], ht.below_ro acts_ro⟩
end Go.Proofs.Ytojlmpcbplepcaa
