/- Texts merged: Lw, Wg, Wm. -/
import Derived.Test.YtojlmpcbplepcaaCt3
import Derived.Test.YtojlmpcbplepcaaMd3
import Derived.Test.YtojlmpcbplepcaaKit11
import Derived.Test.YtojlmpcbplepcaaSp2
/- Chapter 10: all contracts, for the laws. -/
namespace Go.Proofs.Ytojlmpcbplepcaa
open Go Go.Eng
structure NL where
  F : NF
  M : NMk
  S : NS
  E : NE
  LV : CD → List Int → List Int → Int
  LE : CD → List Int → List Int → Int
  EQ : List Int → List Int → Bool
  ANY : List Int → Bool
  KL : List Int → Bool
def klB (xs : List Int) : Bool := decide (xs.length ≤ 1000000)
noncomputable def nL : NL := ⟨nF, nMk, nS, nE, leadV, leadE, eqI, anyN, klB⟩
def lLead (N : NL) : CH
  | [.agg l], [.rs _ 1 (.ints .u8 xs), .rs _ 1 (.ints .i64 ac)] => match ofCrs l with
    | some (s, .gs 0, .gs 1) => some (N.F.OK xs, .tuple [.int .u8 (N.LV s xs ac), .int .i64 (N.LE s xs ac)], [])
    | _ => none
  | _, _ => none
theorem lLead_ok : cOk 26 (lLead nL) := by
  intro args hp c v nb hq hc
  unfold lLead at hq
  split at hq
  · split at hq
    · rename_i s hs
      cases hq
      rw [ofCrs_ok hs, List.append_nil]
      exact ⟨.of Try.func26 (by kernel_rfl), lead26_fn _ _ hc⟩
    · cases hq
  · cases hq
def lEqU (N : NL) : CH
  | [.gs 0, .gs 1], [.rs _ 1 (.ints .u8 xs), .rs _ 1 (.ints .u8 ys)] => some (N.KL xs, .bool (N.EQ xs ys), [])
  | _, _ => none
def lEqI (N : NL) : CH
  | [.gs 0, .gs 1], [.rs _ 1 (.ints .i64 xs), .rs _ 1 (.ints .i64 ys)] => some (N.KL xs, .bool (N.EQ xs ys), [])
  | _, _ => none
theorem lEq24_ok : cOk 24 (lEqU nL) := by
  intro args hp c v nb hq hc
  unfold lEqU at hq
  split at hq
  · cases hq; exact ⟨.of Try.func24 (by kernel_rfl), sb_fn _ _ (of_decide_eq_true hc)⟩
  · cases hq
theorem lEq19_ok : cOk 19 (lEqU nL) := by
  intro args hp c v nb hq hc
  unfold lEqU at hq
  split at hq
  · cases hq; exact ⟨.of Try.func19 (by kernel_rfl), se_fn _ _ (of_decide_eq_true hc)⟩
  · cases hq
theorem lEq25_ok : cOk 25 (lEqI nL) := by
  intro args hp c v nb hq hc
  unfold lEqI at hq
  split at hq
  · cases hq; exact ⟨.of Try.func25 (by kernel_rfl), si_fn _ _ (of_decide_eq_true hc)⟩
  · cases hq
def lAny (N : NL) : CH
  | [.gs 0, .func 22 []], [.rs _ 1 (.ints .u8 xs)] => some (N.KL xs, .bool (N.ANY xs), [])
  | _, _ => none
theorem lAny_ok : cOk 21 (lAny nL) := by
  intro args hp c v nb hq hc
  unfold lAny at hq
  split at hq
  · cases hq; exact ⟨.of Try.func21 (by kernel_rfl), conf_fn _ (of_decide_eq_true hc)⟩
  · cases hq
def hTabW (N : NL) : HTab := addH 10 (fMade N.M) (addH 20 (fStep N.S) (addH 23 (dCon N.E) (addH 26 (lLead N) (addH 24 (lEqU N) (addH 19 (lEqU N) (addH 25 (lEqI N) (addH 21 (lAny N) (hTabF N.F emptyH))))))))
theorem hTabW_ok : HTabOk Try.prog (hTabW nL) := addH_ok fMade_ok (addH_ok fStep_ok (addH_ok dCon_ok (addH_ok lLead_ok (addH_ok lEq24_ok (addH_ok lEq19_ok (addH_ok lEq25_ok (addH_ok lAny_ok (hTabF_ok emptyH_ok))))))))
def nrW : FuncId → Nat → Option Row := fun f n => bif Nat.beq f 25 then some (.ints .i64 []) else bif Nat.beq f 24 || Nat.beq f 19 then some (.ints .u8 []) else nrC f n
def domW : FuncId → Bool := fun f => domF f || (Nat.beq f 10 || (Nat.beq f 19 || (Nat.beq f 20 || (Nat.beq f 21 || (Nat.beq f 23 || (Nat.beq f 24 || (Nat.beq f 25 || Nat.beq f 26)))))))
noncomputable abbrev orcW (N : NL) (T : PTab) (LL : FuncId → Loops) : Oracle := inl Try.prog ftab T LL 100 never domW (hOrcX nrW (hTabW N)) 20
theorem orcW_ok {T : PTab} (hT : PTabOk Try.prog T) {LL : FuncId → Loops} (hL : ∀ f, loopsOk Try.prog (LL f)) : OracleOk Try.prog (orcW nL T LL) := inl_ok (hOrcX_ok hTabW_ok) ftab_ok hT hL mixed 20
/-! ### IrregularStays: its loops -/
noncomputable def saLp : Code := loopOf 5 Try.f4
def saBk : List TB := [.rs false 3 (.ints .u8), .own 29 (.vs (crsT (.gs 2) (.gs 3))), .grow false 5 1 (.ints .u8), .grow false 3 1 (.ints .i64)]
def saT : Tm := ⟨mkS [(4, .bool), (5, .ptr 1 0), (30, .view 0 3), (31, .int .i64), (32, .int .i64)] 0 214, saBk, []⟩
def saX : Tm := ⟨mkS [(4, .bool), (5, .ptr 1 0)] 0 214, saBk, []⟩
noncomputable def sbLp4 : Code := loopOf 23 Try.f4
def sbT4 : Tm := ⟨mkS [(4, .bool), (5, .ptr 1 0), (176, .int .i64)] 0 214, saBk, []⟩
def sbX4 : Tm := ⟨mkS [(4, .bool)] 0 214, [.rs false 3 (.ints .u8)], []⟩
end Go.Proofs.Ytojlmpcbplepcaa

/- Chapter 10: IrregularWrong: its oracle. -/
namespace Go.Proofs.Ytojlmpcbplepcaa
open Go Go.Eng
def hTabV (K : List Int → Bool) : HTab := addH 28 (cpU K) (addH 29 (cpI K) emptyH)
theorem hTabV_ok : HTabOk Try.prog (hTabV klB) := by
  refine addH_ok ?_ (addH_ok ?_ emptyH_ok)
  · intro args h c v nb hq hc
    unfold cpU at hq
    split at hq
    · cases hq; exact ⟨.of Try.func28 (by kernel_rfl), clU_fn _ (of_decide_eq_true hc)⟩
    · cases hq
  · intro args h c v nb hq hc
    unfold cpI at hq
    split at hq
    · cases hq; exact ⟨.of Try.func29 (by kernel_rfl), clI_fn _ (of_decide_eq_true hc)⟩
    · cases hq
def isCl : FuncId → Bool := fun f => Nat.beq f 28 || Nat.beq f 29
def nrCl : FuncId → Option Row := fun f => bif Nat.beq f 28 then some (.ints .u8 []) else some (.ints .i64 [])
def domV : FuncId → Bool := fun f => isCl f || domW f
noncomputable abbrev orcV (N : NL) : Oracle := inl Try.prog ftab tabAw plainL 100 never domV (orElse isCl (hOrcP nrCl (hTabV N.KL)) (hOrcX nrW (hTabW N))) 20
theorem orcV_ok : OracleOk Try.prog (orcV nL) := inl_ok (orElse_ok (hOrcP_ok hTabV_ok) (hOrcX_ok hTabW_ok)) ftab_ok tabAw_ok plainL_ok mixed 20
end Go.Proofs.Ytojlmpcbplepcaa

/- Chapter 10: IrregularWrong: what is spoilt is not right. -/
namespace Go.Proofs.Ytojlmpcbplepcaa
open Go Go.Eng
theorem rgt_head {s : CD} {xs ac : List Int} (h : (headL s xs).any id = true) : rgtI s xs ac = false := by unfold rgtI; rw [h]; rfl
theorem rgt_rt {s : CD} {xs ac : List Int} (h : (rtF s.d xs ac xs 0 0).1 = false) : rgtI s xs ac = false := by unfold rgtI; rw [h, Bool.false_and, Bool.and_false]
theorem bad_d {s : CD} {xs ac : List Int} (h : 3 < s.d) : rgtI s xs ac = false := rgt_head (by unfold headL; simp [h])
theorem bad_p {s : CD} {xs ac : List Int} {v : Int} {k : Nat} (hk : k < 4) (h : 100 < v) : rgtI (s.setP v k) xs ac = false := rgt_head (by
  have h4 : k = 0 ∨ k = 1 ∨ k = 2 ∨ k = 3 := by omega
  rcases h4 with rfl | rfl | rfl | rfl <;> simp [headL, seatB, CD.setP, Q4.set, h])
theorem bad_a {s : CD} {xs ac : List Int} {v : Int} {k : Nat} (hk : k < 4) (h : 38 < v) : rgtI (s.setA v k) xs ac = false := rgt_head (by
  have h4 : k = 0 ∨ k = 1 ∨ k = 2 ∨ k = 3 := by omega
  rcases h4 with rfl | rfl | rfl | rfl <;> simp [headL, seatB, CD.setA, Q4.set, h])
theorem bad_f {s : CD} {xs ac : List Int} {v : Int} {k : Nat} (hk : k < 4) (h : 15 < v) : rgtI (s.setF v k) xs ac = false := rgt_head (by
  have h4 : k = 0 ∨ k = 1 ∨ k = 2 ∨ k = 3 := by omega
  rcases h4 with rfl | rfl | rfl | rfl <;> simp [headL, seatB, CD.setF, Q4.set, h])
theorem low_not {xs : List Int} {x : Int} (h : isBid x = false) : lwI xs x = false := by unfold lwI; rw [h]; rfl
/-- A call that is none. -/
theorem RC.bad_call {s : CD} {xs ac : List Int} (h : RC s xs ac) (hl : xs.length ≤ 100000) {c : Int} (hc : 37 < c) : rgtI s (xs ++ [c]) ac = false := by
  have g := h.gi (by omega)
  have hr := h.gc.right [] (fun z hz => by cases hz)
  rw [List.append_nil] at hr
  have hb : isBid c = false := by unfold isBid; rw [decide_eq_false (show ¬ c ≤ 37 by omega), Bool.and_false]
  have hf : frI s.d xs c = false := by
    rw [g.fr, chk_big hc]; rfl
  refine rgt_rt ?_
  rw [rtF_snoc, hr, low_not hb, hf]
  cases ovI s.d xs <;> simp
theorem ovr_le {s : St} (ho : ovr s = false) : s.passes ≤ 3 := by
  unfold ovr at ho
  cases hm : s.b.m with
  | true => rw [hm] at ho; simp only [cond_true, decide_eq_false_iff_not] at ho; omega
  | false => rw [hm] at ho; simp only [cond_false, decide_eq_false_iff_not] at ho; omega
theorem rt_zeros {d : Int} {xs ac : List Int} (g : GI d xs) (hl : xs.length ≤ 100000) : ∀ n : Nat, n ≤ 100 → (rtF d (xs ++ List.replicate n 0) ac (xs ++ List.replicate n 0) 0 0).1 = true → GI d (xs ++ List.replicate n 0) ∧ (n : Int) ≤ (Tt d (xs ++ List.replicate n 0)).passes
  | 0, _, _ => by
    rw [List.replicate_zero, List.append_nil]
    exact ⟨g, g.p.1⟩
  | n + 1, hn, h => by
    have e : xs ++ List.replicate (n + 1) (0 : Int) = (xs ++ List.replicate n 0) ++ [0] := by rw [List.append_assoc]; congr 1; exact List.replicate_succ' ..
    have hlen : (xs ++ List.replicate n (0 : Int)).length = xs.length + n := by simp
    rw [e] at h ⊢
    rw [rtF_snoc] at h
    cases h1 : (rtF d (xs ++ List.replicate n 0) ac (xs ++ List.replicate n 0) 0 0).1 with
    | false => rw [h1, cond_false, h1] at h; cases h
    | true =>
      obtain ⟨g1, g2⟩ := rt_zeros g hl n (by omega) h1
      rw [h1, cond_true] at h
      cases h2 : ovI d (xs ++ List.replicate n 0) with
      | true => rw [h2, cond_true] at h; cases h
      | false =>
        obtain ⟨q1, q2⟩ := g1.snoc (by omega) (c := 0) ⟨by omega, by omega⟩ h2 (.inr (g1.pass h2))
        have hov := h2
        rw [g1.ov] at hov
        have h3 := ovr_le hov
        refine ⟨q1, ?_⟩
        rw [q2]
        show ((n + 1 : Nat) : Int) ≤ (aft (Tt d (xs ++ List.replicate n 0)) 0).passes
        rw [aft_pass]
        show ((n + 1 : Nat) : Int) ≤ wr .i64 ((Tt d (xs ++ List.replicate n 0)).passes + 1)
        have := g1.p
        rw [wr64 (by omega) (by omega)]
        omega
/-- Five passes more. -/
theorem RC.bad_passes {s : CD} {xs ac : List Int} (h : RC s xs ac) (hl : xs.length ≤ 100000) : rgtI s (xs ++ [0, 0, 0, 0, 0]) ac = false := by
  refine rgt_rt ?_
  have e : xs ++ [0, 0, 0, 0, 0] = (xs ++ List.replicate 4 (0 : Int)) ++ [0] := by simp
  rw [e, rtF_snoc]
  cases h1 : (rtF s.d (xs ++ List.replicate 4 0) ac (xs ++ List.replicate 4 0) 0 0).1 with
  | false => rw [cond_false]; exact h1
  | true =>
    obtain ⟨g1, g2⟩ := rt_zeros (ac := ac) (h.gi (by omega)) hl 4 (by omega) h1
    have : ovI s.d (xs ++ List.replicate 4 0) = true := by
      rw [g1.ov]
      cases ho : ovr (Tt s.d (xs ++ List.replicate 4 0)) with
      | true => rfl
      | false => have := ovr_le ho; omega
    rw [this]; rfl
/-- A pass that is said to be accepted. -/
theorem RC.bad_pass {s : CD} {xs ac : List Int} (h : RC s xs ac) : rgtI s (xs ++ [0]) (ac ++ [(xs.length : Int)]) = false := by
  have hr := h.gc.right [(xs.length : Int)] (fun z hz => by simp only [List.head?_cons, Option.some.injEq] at hz; omega)
  refine rgt_rt ?_
  rw [rtF_snoc, hr, low_not (xs := xs) (x := 0) rfl]
  cases ovI s.d xs with
  | true => rfl
  | false => simp [List.getD_eq_getElem?_getD]
/-- An accepted call that is none. -/
theorem RC.bad_acc {s : CD} {xs ac : List Int} (h : RC s xs ac) {n : Int} (hn : 0 ≤ n) : rgtI s xs (ac ++ [(xs.length : Int) + n]) = false := by
  have hr := h.gc.right [(xs.length : Int) + n] (fun z hz => by simp only [List.head?_cons, Option.some.injEq] at hz; omega)
  unfold rgtI
  rw [hr, decide_eq_false (show ¬ ac.length = (ac ++ [(xs.length : Int) + n]).length by simp), Bool.false_and, Bool.and_false, Bool.and_false]
/-! ### what a course that is not right answers -/
theorem nr_op {s : CD} {xs ac : List Int} (h : rgtI s xs ac = false) : opI s xs ac = 100 := by unfold opI; rw [h]; rfl
theorem nr_ke {s : CD} {xs ac : List Int} (h : rgtI s xs ac = false) (y x : Int) : keI s xs ac y x = 100 := by unfold keI; rw [h]; rfl
theorem nr_oe {s : CD} {xs ac : List Int} (h : rgtI s xs ac = false) : ovrE s xs ac = 100 := by unfold ovrE; rw [h]; rfl
theorem nr_ac {s : CD} {xs ac : List Int} (h : rgtI s xs ac = false) (y x : Int) : (acI s xs ac y x).e = 100 := by unfold acI; rw [nr_ke h]; rfl
theorem nr_do {s : CD} {xs ac : List Int} (h : rgtI s xs ac = false) (x : Int) : doX s xs ac x = 100 ∧ doL s xs ac x = [] ∧ doC s xs ac x = c0 := by
  have e : doX s xs ac x = 100 := by unfold doX; rw [nr_op h]; rfl
  refine ⟨e, ?_, ?_⟩
  · unfold doL; rw [e]; rfl
  · unfold doC; rw [e]; rfl
end Go.Proofs.Ytojlmpcbplepcaa
