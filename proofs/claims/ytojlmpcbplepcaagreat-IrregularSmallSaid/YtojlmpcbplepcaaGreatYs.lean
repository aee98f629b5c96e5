/- Texts merged: Ys, Mdz, Yt0, Yt. -/
import Derived.Test.YtojlmpcbplepcaaGreatYr
/- Chapter 10: the law's next: its contracts. -/
namespace Go.Proofs.YtojlmpcbplepcaaGreat
open Go Go.Eng
def actW (X B W : Int) : V := .agg [.int .u8 X, .int .u8 B, .int .u8 W]
section
variable (n1 n2 : Bool) {s : CD} {xs ac : List Int} {X B W : Int}
theorem f58A (h : gTl s xs ac = true) (hX : byB X = true) (hi : nxI s xs ac (nxY s xs ac B W) (nxX s xs ac X W) = true) :
    FnOK Tryz.prog 46 [.agg (s.vs (.gs 0) (.gs 1)), actW X B W] (crsH n1 n2 xs ac) (.tuple [.agg ((doC s xs ac (nxX s xs ac X W)).vs (.gs 2) (.gs 1)), .int .u8 (nxY s xs ac B W), .int .u8 (nxX s xs ac X W)]) (crsH n1 n2 xs ac ++ crsNk (doL s xs ac (nxX s xs ac X W))) := by
  have hi2 := hi
  unfold nxI at hi2
  simp only [Bool.and_eq_true, decide_eq_true_eq] at hi2
  refine fn_crs (fn_ans (T := nxA) (ps := (doC s xs ac (nxX s xs ac X W)).pv [.i (nxY s xs ac B W), .i (nxX s xs ac X W), .l xs, .l ac, .l (doL s xs ac (nxX s xs ac X W))]) (orcTl_ok false false) mixed Tryz.func46 noLoops_ok (by kernel_rfl)
    ((nx_A nTl s xs ac X B W).trans ((nxAll_is h hX (fun _ _ => by rw [hi2.2.2]; rfl) (fun hq => by rw [hi] at hq; cases hq)).trans ?_)) codesNil rfl)
  unfold nxF
  rw [hi]; rfl
theorem f58B (h : gTl s xs ac = true) (hX : byB X = true) (hi : nxI s xs ac (nxY s xs ac B W) (nxX s xs ac X W) = false) (hw : W.tmod 3 = 0) (ha : (acI s xs ac (nxY s xs ac B W) (nxX s xs ac X W)).e = 0) :
    FnOK Tryz.prog 46 [.agg (s.vs (.gs 0) (.gs 1)), actW X B W] (crsH n1 n2 xs ac) (.tuple [.agg ((acI s xs ac (nxY s xs ac B W) (nxX s xs ac X W)).s.vs (.gs 2) (.gs 3)), .int .u8 (nxY s xs ac B W), .int .u8 (nxX s xs ac X W)])
      (crsH n1 n2 xs ac ++ crsNb (acI s xs ac (nxY s xs ac B W) (nxX s xs ac X W)).ys (acI s xs ac (nxY s xs ac B W) (nxX s xs ac X W)).bc) := by
  have main : ∀ de, evNx nTl s xs ac X B W de false nxB = nxAll nTl s xs ac X B W de false (kB nTl s xs ac) → (opI s xs ac = 0 → nxY s xs ac B W = tuV s xs ac → de = !decide (doX s xs ac (nxX s xs ac X W) = 0)) →
      FnOK Tryz.prog 46 [.agg (s.vs (.gs 0) (.gs 1)), actW X B W] (crsH n1 n2 xs ac) (.tuple [.agg ((acI s xs ac (nxY s xs ac B W) (nxX s xs ac X W)).s.vs (.gs 2) (.gs 3)), .int .u8 (nxY s xs ac B W), .int .u8 (nxX s xs ac X W)])
      (crsH n1 n2 xs ac ++ crsNb (acI s xs ac (nxY s xs ac B W) (nxX s xs ac X W)).ys (acI s xs ac (nxY s xs ac B W) (nxX s xs ac X W)).bc) := fun de he hde => by
    refine fn_crs (fn_ans (T := nxB) (ps := (acI s xs ac (nxY s xs ac B W) (nxX s xs ac X W)).s.pv [.i (nxY s xs ac B W), .i (nxX s xs ac X W), .l xs, .l ac, .l (acI s xs ac (nxY s xs ac B W) (nxX s xs ac X W)).ys, .l (acI s xs ac (nxY s xs ac B W) (nxX s xs ac X W)).bc]) (orcTl_ok de false) mixed Tryz.func46 noLoops_ok (by kernel_rfl)
      (he.trans ((nxAll_is h hX hde (fun _ hq => absurd hw hq)).trans ?_)) codesNil rfl)
    unfold nxF
    rw [hi, decide_eq_true hw, decide_eq_true ha]; rfl
  cases hd : !decide (doX s xs ac (nxX s xs ac X W) = 0) with
  | false => exact main false (nx_B0 nTl s xs ac X B W) fun _ _ => hd.symm
  | true => exact main true (nx_B1 nTl s xs ac X B W) fun _ _ => hd.symm
theorem f58C (h : gTl s xs ac = true) (hX : byB X = true) (hi : nxI s xs ac (nxY s xs ac B W) (nxX s xs ac X W) = false) (hw : ¬ (W.tmod 3 = 0 ∧ (acI s xs ac (nxY s xs ac B W) (nxX s xs ac X W)).e = 0)) :
    FnOK Tryz.prog 46 [.agg (s.vs (.gs 0) (.gs 1)), actW X B W] (crsH n1 n2 xs ac) (.tuple [.agg ((nxS s xs ac W (nxY s xs ac B W) (nxX s xs ac X W)).vs (.gs 0) (.gs 1)), .int .u8 (nxY s xs ac B W), .int .u8 (nxX s xs ac X W)]) (crsH n1 n2 xs ac ++ []) := by
  have main : ∀ de re, evNx nTl s xs ac X B W de re nxC = nxAll nTl s xs ac X B W de re (kC xs ac) → (opI s xs ac = 0 → nxY s xs ac B W = tuV s xs ac → de = !decide (doX s xs ac (nxX s xs ac X W) = 0)) → re = (!decide (rfX s xs ac (nxY s xs ac B W) (nxX s xs ac X W) = 0)) →
      FnOK Tryz.prog 46 [.agg (s.vs (.gs 0) (.gs 1)), actW X B W] (crsH n1 n2 xs ac) (.tuple [.agg ((nxS s xs ac W (nxY s xs ac B W) (nxX s xs ac X W)).vs (.gs 0) (.gs 1)), .int .u8 (nxY s xs ac B W), .int .u8 (nxX s xs ac X W)]) (crsH n1 n2 xs ac ++ []) := fun de re he hde hre => by
    refine fn_crs (fn_ans (T := nxC) (ps := (nxS s xs ac W (nxY s xs ac B W) (nxX s xs ac X W)).pv [.i (nxY s xs ac B W), .i (nxX s xs ac X W), .l xs, .l ac]) (orcTl_ok de re) mixed Tryz.func46 noLoops_ok (by kernel_rfl)
      (he.trans ((nxAll_is h hX hde (fun _ _ => hre)).trans ?_)) codesNil rfl)
    unfold nxF
    have : (decide (W.tmod 3 = 0) && decide ((acI s xs ac (nxY s xs ac B W) (nxX s xs ac X W)).e = 0)) = false := by
      cases hq : (decide (W.tmod 3 = 0) && decide ((acI s xs ac (nxY s xs ac B W) (nxX s xs ac X W)).e = 0)) with
      | false => rfl
      | true =>
        simp only [Bool.and_eq_true, decide_eq_true_eq] at hq
        exact absurd hq hw
    rw [hi, this]; rfl
  cases hd : !decide (doX s xs ac (nxX s xs ac X W) = 0) <;> cases hr : !decide (rfX s xs ac (nxY s xs ac B W) (nxX s xs ac X W) = 0)
  · exact main false false (nx_C0 nTl s xs ac X B W) (fun _ _ => hd.symm) hr.symm
  · exact main false true (nx_C1 nTl s xs ac X B W) (fun _ _ => hd.symm) hr.symm
  · exact main true false (nx_C2 nTl s xs ac X B W) (fun _ _ => hd.symm) hr.symm
  · exact main true true (nx_C3 nTl s xs ac X B W) (fun _ _ => hd.symm) hr.symm
end
end Go.Proofs.YtojlmpcbplepcaaGreat

/- Chapter 10: acts as bytes. -/
namespace Go.Proofs.YtojlmpcbplepcaaGreat
open Go Go.Eng
def aX (ws : List Int) (p : Nat) : Int := ws.getD p 0
def aB (ws : List Int) (p : Nat) : Int := ws.getD (p + 1) 0
def aW (ws : List Int) (p : Nat) : Int := ws.getD (p + 1 + 1) 0
def okW (ws : List Int) : Bool := decide (ws.length % 3 = 0) && allU ws
theorem okW_iff {ws : List Int} : okW ws = true ↔ ws.length % 3 = 0 ∧ allU ws = true := by simp [okW]
theorem okW_at {ws : List Int} (h : okW ws = true) {p : Nat} (hp : p < ws.length) : byB (ws.getD p 0) = true := by
  have := allU_get (okW_iff.1 h).2 hp
  rw [List.getD_eq_getElem?_getD, List.getElem?_eq_getElem hp]
  exact decide_eq_true this
end Go.Proofs.YtojlmpcbplepcaaGreat

/- Chapter 10: the law's played: what it is walked with. -/
namespace Go.Proofs.YtojlmpcbplepcaaGreat
open Go Go.Eng
abbrev CF3 (α : Type) := CF (Int → Int → Int → α)
structure NPy where
  G : CF Bool
  BY : Int → Bool
  S : Nat → CF3 Bool
  R : Nat → CF3 CD
  L : Nat → CF3 (List Int)
  K : Nat → CF3 (List Int)
  Y : CF3 Int
  X : CF3 Int
def pyS (sh : Nat) : CF3 Bool := fun s xs ac X B W => byB X && match sh with
  | 0 => nxI s xs ac (nxY s xs ac B W) (nxX s xs ac X W)
  | 1 => !nxI s xs ac (nxY s xs ac B W) (nxX s xs ac X W) && (decide (W.tmod 3 = 0) && decide ((acI s xs ac (nxY s xs ac B W) (nxX s xs ac X W)).e = 0))
  | _ => !nxI s xs ac (nxY s xs ac B W) (nxX s xs ac X W) && !(decide (W.tmod 3 = 0) && decide ((acI s xs ac (nxY s xs ac B W) (nxX s xs ac X W)).e = 0))
def pyR (sh : Nat) : CF3 CD := fun s xs ac X B W => match sh with
  | 0 => doC s xs ac (nxX s xs ac X W)
  | 1 => (acI s xs ac (nxY s xs ac B W) (nxX s xs ac X W)).s
  | _ => nxS s xs ac W (nxY s xs ac B W) (nxX s xs ac X W)
def pyL (sh : Nat) : CF3 (List Int) := fun s xs ac X B W => match sh with
  | 0 => doL s xs ac (nxX s xs ac X W)
  | 1 => (acI s xs ac (nxY s xs ac B W) (nxX s xs ac X W)).ys
  | _ => xs
def pyK (sh : Nat) : CF3 (List Int) := fun s xs ac X B W => match sh with
  | 1 => (acI s xs ac (nxY s xs ac B W) (nxX s xs ac X W)).bc
  | _ => ac
def nPy : NPy := ⟨gTl, byB, pyS, pyR, pyL, pyK, fun s xs ac _ B W => nxY s xs ac B W, fun s xs ac X _ W => nxX s xs ac X W⟩
def g58 (N : NPy) (sh : Nat) : CH
  | [.agg l, .agg [.int .u8 X, .int .u8 B, .int .u8 W]], [.rs _ 1 (.ints .u8 xs), .rs _ 1 (.ints .i64 ac)] => match ofCrs l with
    | some (s, .gs 0, .gs 1) => match sh with
      | 0 => some (N.G s xs ac && N.S 0 s xs ac X B W, .tuple [.agg ((N.R 0 s xs ac X B W).vs (.gs 2) (.gs 1)), .int .u8 (N.Y s xs ac X B W), .int .u8 (N.X s xs ac X B W)], crsNk (N.L 0 s xs ac X B W))
      | 1 => some (N.G s xs ac && N.S 1 s xs ac X B W, .tuple [.agg ((N.R 1 s xs ac X B W).vs (.gs 2) (.gs 3)), .int .u8 (N.Y s xs ac X B W), .int .u8 (N.X s xs ac X B W)], crsNb (N.L 1 s xs ac X B W) (N.K 1 s xs ac X B W))
      | _ => some (N.G s xs ac && N.S 2 s xs ac X B W, .tuple [.agg ((N.R 2 s xs ac X B W).vs (.gs 0) (.gs 1)), .int .u8 (N.Y s xs ac X B W), .int .u8 (N.X s xs ac X B W)], [])
    | _ => none
  | _, _ => none
theorem g58_ok (sh : Nat) : cOk 46 (g58 nPy sh) := by
  intro args hp c v nb hq hc
  unfold g58 at hq
  split at hq
  · split at hq
    · rename_i s hs
      rw [ofCrs_ok hs]
      split at hq
      · cases hq
        obtain ⟨h1, h2⟩ := and_ok hc
        obtain ⟨h3, h4⟩ := and_ok h2
        exact ⟨.of Tryz.func46 (by kernel_rfl), f58A _ _ h1 h3 h4⟩
      · cases hq
        obtain ⟨h1, h2⟩ := and_ok hc
        obtain ⟨h3, h4⟩ := and_ok h2
        obtain ⟨h5, h6⟩ := and_ok h4
        obtain ⟨h7, h8⟩ := and_ok h6
        exact ⟨.of Tryz.func46 (by kernel_rfl), f58B _ _ h1 h3 (by simpa using h5) (of_decide_eq_true h7) (of_decide_eq_true h8)⟩
      · cases hq
        obtain ⟨h1, h2⟩ := and_ok hc
        obtain ⟨h3, h4⟩ := and_ok h2
        obtain ⟨h5, h6⟩ := and_ok h4
        refine ⟨.of Tryz.func46 (by kernel_rfl), f58C _ _ h1 h3 (by simpa using h5) ?_⟩
        rintro ⟨h7, h8⟩
        rw [decide_eq_true h7, decide_eq_true h8] at h6
        cases h6
    · cases hq
  · cases hq
def F59 (N : NPy) : CF (Int → Int → CA) := fun s xs ac y x => (N.G s xs ac && (N.BY y && N.BY x), .bool true, [])
theorem g59_ok : cOk 4 (gC2 (F59 nPy)) := gC2_ok (.of Tryz.func4 (by kernel_rfl)) fun n1 n2 s xs ac y x h => by
  obtain ⟨h1, h2⟩ := and_ok h
  exact f59 n1 n2 h1 (and_ok h2).1 (and_ok h2).2
def h27 (N : NPy) (sh : Nat) : HTab := addH 46 (g58 N sh) (addH 4 (gC2 (F59 N)) emptyH)
theorem h27_ok (sh : Nat) : HTabOk Tryz.prog (h27 nPy sh) := addH_ok (g58_ok sh) (addH_ok g59_ok emptyH_ok)
def is58 : FuncId → Bool := fun f => Nat.beq f 46
def d27 : FuncId → Bool := fun f => Nat.beq f 46 || Nat.beq f 4
noncomputable abbrev orcPy (N : NPy) (sh : Nat) : Oracle := inl Tryz.prog ftab emptyTab plainL 100 never d27 (orElse is58 (hOrcS nrC (h27 N sh)) (hOrcX nrC (h27 N sh))) 20
theorem orcPy_ok (sh : Nat) : OracleOk Tryz.prog (orcPy nPy sh) := inl_ok (orElse_ok (hOrcS_ok (h27_ok sh)) (hOrcX_ok (h27_ok sh))) ftab_ok emptyTab_ok plainL_ok mixed 20
noncomputable def pyLp : Code := loopOf 2 Tryz.f6
def pyBk : List TB := [.rs false 3 (.ints .u8), .own 35 (.vs (crsT (.gs 2) (.gs 3))), .grow false 5 1 (.ints .u8), .grow false 3 1 (.ints .i64)]
def pyT : Tm := ⟨mkS [(2, .ptr 1 0), (10, .gs 0), (11, .int .i64), (12, .int .i64)] 0 32, pyBk, []⟩
def pyX : Tm := ⟨mkS [(2, .ptr 1 0)] 0 32, pyBk, []⟩
def pyIn (n i : Int) (ws : List Int) (s : CD) (xs ac : List Int) : List PV := .i n :: .i i :: .l ws :: s.pv [.l xs, .l ac]
end Go.Proofs.YtojlmpcbplepcaaGreat

/- Chapter 10: the law's played: its loop. -/
namespace Go.Proofs.YtojlmpcbplepcaaGreat
open Go Go.Eng
theorem loop_of_roundsPy {P : Program} {L : Loops} {N n0 : Nat} {rd : Option Nat} {me : FuncId} {c : Code} {T : Tm} {T' : XE → Tm} (hm : P.follows .mixedOrders = true) (hl : loopsOk P L) (hk : T.ok = true) (hk' : ∀ e, (T' e).ok = true)
    {X : Type} (C : X → Oracle) (hC : ∀ x, OracleOk P (C x)) (enc : X → List PV) (inv : X → Prop) (μ : X → Nat) (fin : X → XE × List PV)
    (round : ∀ x, inv x → ∃ e qs l, roundX P (C x) L N n0 rd me c T T T' (enc x) = some (e, qs, l) ∧ codesOk l ∧
      ((e = .normal ∧ ∃ y, qs = enc y ∧ inv y ∧ μ y < μ x ∧ fin y = fin x) ∨ (e ≠ .normal ∧ (e, qs) = fin x))) :
    ∀ x, inv x → ∃ n, SimL P n0 rd c n (T.at (enc x)) (fin x).1 ((T' (fin x).1).at (fin x).2) := by
  have key : ∀ m x, μ x = m → inv x → ∃ n, SimL P n0 rd c n (T.at (enc x)) (fin x).1 ((T' (fin x).1).at (fin x).2) := by
    intro m
    induction m using Nat.strongRecOn with
    | _ m ih =>
      intro x hm' hx
      obtain ⟨e, qs, l, h1, h2, h3⟩ := round x hx
      obtain ⟨q1, q2⟩ := roundX_sim (hC x) hm hl hk hk' h1 h2
      rcases h3 with ⟨rfl, y, rfl, hy, hlt, hf⟩ | ⟨hne, hf⟩
      · obtain ⟨n, hn⟩ := ih (μ y) (hm' ▸ hlt) y rfl hy
        rw [hf] at hn
        exact ⟨n + 1, (q1 rfl).step hn⟩
      · rw [← hf]
        exact ⟨1, (q2 hne).leave hne⟩
  exact fun x hx => key _ x rfl hx
def pyL2 (N : NPy) (sh : Nat) : CF3 (List Int) := fun s xs ac X B W => match sh with
  | 0 => N.L 0 s xs ac X B W
  | 1 => N.L 1 s xs ac X B W
  | _ => xs
def pyK2 (N : NPy) (sh : Nat) : CF3 (List Int) := fun s xs ac X B W => match sh with
  | 1 => N.K 1 s xs ac X B W
  | _ => ac
noncomputable def pyE (N : NPy) (sh : Nat) (n i : Int) (ws : List Int) (s : CD) (xs ac : List Int) (X B W : Int) : Option (XE × List PV × List (Code × Code)) :=
  bif N.G s xs ac && N.S sh s xs ac X B W then bif N.G s xs ac && (N.BY (N.Y s xs ac X B W) && N.BY (N.X s xs ac X B W)) then some (.normal, pyIn n (wr .i64 (i + 1)) ws (N.R sh s xs ac X B W) (pyL2 N sh s xs ac X B W) (pyK2 N sh s xs ac X B W), []) else none else none
theorem py_round (N : NPy) (rd : Option Nat) (n i : Int) (ws xs ac : List Int) (s : CD) : ∀ sh : Nat, sh < 3 → roundX Tryz.prog (orcPy N sh) noLoops 100 1 rd 6 pyLp pyT pyT (fun _ => pyX) (pyIn n i ws s xs ac) =
    bif decide (i < n) then bif decide (0 ≤ i ∧ i < Int.ofNat (ws.length / 3)) then bif decide (i.toNat * 3 + 3 ≤ ws.length) then pyE N sh n i ws s xs ac (aX ws (i.toNat * 3)) (aB ws (i.toNat * 3)) (aW ws (i.toNat * 3)) else none else none else some (.exit 0, .l ws :: s.pv [.l xs, .l ac], [])
  | 0, _ => by kernel_rfl
  | 1, _ => by kernel_rfl
  | 2, _ => by kernel_rfl
  | n + 3, h => absurd h (by omega)
structure PyC where
  s : CD
  xs : List Int
  ac : List Int
def pySh (c : PyC) (X B W : Int) : Nat := bif nxI c.s c.xs c.ac (nxY c.s c.xs c.ac B W) (nxX c.s c.xs c.ac X W) then 0 else bif decide (W.tmod 3 = 0) && decide ((acI c.s c.xs c.ac (nxY c.s c.xs c.ac B W) (nxX c.s c.xs c.ac X W)).e = 0) then 1 else 2
theorem pySh_lt (c : PyC) (X B W : Int) : pySh c X B W < 3 := by
  unfold pySh
  cases nxI c.s c.xs c.ac (nxY c.s c.xs c.ac B W) (nxX c.s c.xs c.ac X W) <;> cases (decide (W.tmod 3 = 0) && decide ((acI c.s c.xs c.ac (nxY c.s c.xs c.ac B W) (nxX c.s c.xs c.ac X W)).e = 0)) <;> decide
theorem pySh_ok (c : PyC) {X B W : Int} (hX : byB X = true) : pyS (pySh c X B W) c.s c.xs c.ac X B W = true := by
  unfold pySh pyS
  rw [hX]
  cases h1 : nxI c.s c.xs c.ac (nxY c.s c.xs c.ac B W) (nxX c.s c.xs c.ac X W) <;> cases h2 : (decide (W.tmod 3 = 0) && decide ((acI c.s c.xs c.ac (nxY c.s c.xs c.ac B W) (nxX c.s c.xs c.ac X W)).e = 0)) <;> rfl
def PyC.act (c : PyC) (X B W : Int) : PyC := ⟨pyR (pySh c X B W) c.s c.xs c.ac X B W, pyL2 nPy (pySh c X B W) c.s c.xs c.ac X B W, pyK2 nPy (pySh c X B W) c.s c.xs c.ac X B W⟩
structure PyC.Ok (c : PyC) (n : Nat) : Prop where
  b : crB c.s = true
  u : allU c.xs = true
  l : c.xs.length ≤ n
  m : c.ac.length ≤ n
theorem PyC.Ok.g {c : PyC} {n : Nat} (h : c.Ok n) (hn : n ≤ 5000) : gTl c.s c.xs c.ac = true := gTl_iff.2 ⟨h.b, h.u, by have := h.l; omega, by have := h.m; omega⟩
theorem PyC.Ok.act {c : PyC} {n : Nat} (h : c.Ok n) {X B W : Int} (hX : byB X = true) : (c.act X B W).Ok (n + 4) := by
  obtain ⟨hb, hu, hl, hm⟩ := h
  have hx := nxX_by (s := c.s) (xs := c.xs) (ac := c.ac) (W := W) hX
  have lt := pySh_lt c X B W
  unfold PyC.act
  generalize pySh c X B W = sh at lt
  match sh, lt with
  | 0, _ =>
    obtain ⟨a1, a2⟩ := doL_b (s := c.s) (ac := c.ac) hu hx
    exact ⟨crB_do hb _ _ _, a1, Nat.le_trans a2 (by omega), by show c.ac.length ≤ n + 4; omega⟩
  | 1, _ =>
    have := acI_b hb hu c.ac (nxY c.s c.xs c.ac B W) hx
    exact ⟨this.c, this.u, Nat.le_trans this.l (by omega), Nat.le_trans this.m (by omega)⟩
  | 2, _ =>
    refine ⟨?_, hu, by show c.xs.length ≤ n + 4; omega, by show c.ac.length ≤ n + 4; omega⟩
    show crB (nxS c.s c.xs c.ac W (nxY c.s c.xs c.ac B W) (nxX c.s c.xs c.ac X W)) = true
    unfold nxS
    cases decide (W.tmod 3 = 0) with
    | true => exact hb
    | false =>
      rw [cond_false]
      cases decide (rfX c.s c.xs c.ac (nxY c.s c.xs c.ac B W) (nxX c.s c.xs c.ac X W) = 0) with
      | true => exact crB_rf hb _ _ _ _
      | false => exact hb
  | k + 3, h => exact absurd h (by omega)
def pyR2 (ws : List Int) : Nat → Nat → PyC → PyC
  | 0, _, c => c
  | n + 1, i, c => pyR2 ws n (i + 1) (c.act (aX ws (i * 3)) (aB ws (i * 3)) (aW ws (i * 3)))
theorem pyR2_ok {ws : List Int} (hw : okW ws = true) : ∀ (n i : Nat) (c : PyC) (m : Nat), c.Ok m → (i + n) * 3 ≤ ws.length → (pyR2 ws n i c).Ok (m + 4 * n)
  | 0, _, _, _, h, _ => h
  | n + 1, i, c, m, h, hl => by
    have := pyR2_ok hw n (i + 1) _ (m + 4) (h.act (B := aB ws (i * 3)) (W := aW ws (i * 3)) (okW_at hw (show i * 3 < ws.length by omega))) (by omega)
    rw [show m + 4 * (n + 1) = m + 4 + 4 * n by omega]
    exact this
theorem py_loop (rd : Option Nat) (ws : List Int) (k : Nat) (hk : k ≤ 1000) (hkw : k = ws.length / 3) (hw : okW ws = true) : ∀ x : Nat × PyC, (x.1 ≤ k ∧ x.2.Ok (4 * x.1)) →
    ∃ m, SimL Tryz.prog 1 rd pyLp m (pyT.at (pyIn (k : Int) (x.1 : Int) ws x.2.s x.2.xs x.2.ac)) (.exit 0) (pyX.at (.l ws :: (pyR2 ws (k - x.1) x.1 x.2).s.pv [.l (pyR2 ws (k - x.1) x.1 x.2).xs, .l (pyR2 ws (k - x.1) x.1 x.2).ac])) := by
  refine loop_of_roundsPy (L := noLoops) (N := 100) (me := 6) (T := pyT) (T' := fun _ => pyX) mixed noLoops_ok (by kernel_rfl) (fun _ => by kernel_rfl) (X := Nat × PyC)
    (fun x => orcPy nPy (pySh x.2 (aX ws (x.1 * 3)) (aB ws (x.1 * 3)) (aW ws (x.1 * 3)))) (fun _ => orcPy_ok _)
    (fun x => pyIn (k : Int) (x.1 : Int) ws x.2.s x.2.xs x.2.ac) (fun x => x.1 ≤ k ∧ x.2.Ok (4 * x.1)) (fun x => k - x.1) (fun x => (.exit 0, .l ws :: (pyR2 ws (k - x.1) x.1 x.2).s.pv [.l (pyR2 ws (k - x.1) x.1 x.2).xs, .l (pyR2 ws (k - x.1) x.1 x.2).ac])) ?_
  rintro ⟨i, c⟩ ⟨hi, hc⟩
  dsimp only at hi hc ⊢
  have key := py_round nPy rd (k : Int) (i : Int) ws c.xs c.ac c.s (pySh c (aX ws (i * 3)) (aB ws (i * 3)) (aW ws (i * 3))) (pySh_lt _ _ _ _)
  rcases Nat.lt_or_ge i k with hlt | hge
  · have hin : i * 3 + 3 ≤ ws.length := by omega
    have hX : byB (aX ws (i * 3)) = true := okW_at hw (by omega)
    have hg := hc.g (by omega)
    have z1 : Int.ofNat (ws.length / 3) = ((ws.length / 3 : Nat) : Int) := rfl
    rw [z1, decide_eq_true (show (i : Int) < (k : Int) by omega), cond_true, decide_eq_true (show 0 ≤ (i : Int) ∧ (i : Int) < ((ws.length / 3 : Nat) : Int) by omega), cond_true, show ((i : Int)).toNat = i from rfl, decide_eq_true hin, cond_true] at key
    unfold pyE at key
    rw [show nPy.G c.s c.xs c.ac = true from hg, show nPy.S (pySh c (aX ws (i * 3)) (aB ws (i * 3)) (aW ws (i * 3))) c.s c.xs c.ac (aX ws (i * 3)) (aB ws (i * 3)) (aW ws (i * 3)) = true from pySh_ok c hX,
      show nPy.BY (nPy.Y c.s c.xs c.ac (aX ws (i * 3)) (aB ws (i * 3)) (aW ws (i * 3))) = true from nxY_by _ _ _ _ _, show nPy.BY (nPy.X c.s c.xs c.ac (aX ws (i * 3)) (aB ws (i * 3)) (aW ws (i * 3))) = true from nxX_by hX, wr64 (n := (i : Int) + 1) (by omega) (by omega)] at key
    refine ⟨_, _, _, key, codesNil, .inl ⟨rfl, (i + 1, c.act (aX ws (i * 3)) (aB ws (i * 3)) (aW ws (i * 3))), rfl, ⟨by dsimp only; omega, by dsimp only; rw [show 4 * (i + 1) = 4 * i + 4 by omega]; exact hc.act hX⟩, by dsimp only; omega, ?_⟩⟩
    dsimp only
    rw [show k - i = (k - (i + 1)) + 1 by omega]; rfl
  · rw [decide_eq_false (show ¬ (i : Int) < (k : Int) by omega), cond_false] at key
    refine ⟨_, _, _, key, codesNil, .inr ⟨by simp, ?_⟩⟩
    rw [show k - i = 0 by omega]; rfl
end Go.Proofs.YtojlmpcbplepcaaGreat
