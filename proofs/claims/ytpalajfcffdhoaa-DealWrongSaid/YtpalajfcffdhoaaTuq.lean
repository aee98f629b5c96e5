/- Chapter 6: the law DealTurns answers true. -/
import Derived.Test.YtpalajfcffdhoaaLw
namespace Go.Proofs.Ytpalajfcffdhoaa
open Go Go.Eng Go.Deal
theorem T_congr {j k : Int} (h : j % 4 = k % 4) (q : DQ) : d7.T j q = d7.T k q := by
  show (⟨tu0 j _ _ _ _, tu1 j _ _ _ _, tu2 j _ _ _ _, tu3 j _ _ _ _⟩ : DQ) = ⟨tu0 k _ _ _ _, tu1 k _ _ _ _, tu2 k _ _ _ _, tu3 k _ _ _ _⟩
  unfold tu0 tu1 tu2 tu3 tuC
  rw [h]
theorem T_lit (q : DQ) : d7.T 0 q = q ∧ d7.T 1 q = ⟨q.d, q.a, q.b, q.c⟩ ∧ d7.T 2 q = ⟨q.c, q.d, q.a, q.b⟩ ∧ d7.T 3 q = ⟨q.b, q.c, q.d, q.a⟩ := ⟨rfl, rfl, rfl, rfl⟩
theorem T_four (k : Int) : k % 4 = 0 ∨ k % 4 = 1 ∨ k % 4 = 2 ∨ k % 4 = 3 := by omega
theorem T_add (j k : Int) (q : DQ) : d7.T j (d7.T k q) = d7.T (j + k) q := by
  obtain ⟨_, _, _, _⟩ := q
  rcases T_four j with h | h | h | h <;> rcases T_four k with g | g | g | g
  · rw [T_congr (j := j) (k := 0) (by omega), T_congr (j := k) (k := 0) (by omega), T_congr (j := j + k) (k := 0) (by omega)]; rfl
  · rw [T_congr (j := j) (k := 0) (by omega), T_congr (j := k) (k := 1) (by omega), T_congr (j := j + k) (k := 1) (by omega)]; rfl
  · rw [T_congr (j := j) (k := 0) (by omega), T_congr (j := k) (k := 2) (by omega), T_congr (j := j + k) (k := 2) (by omega)]; rfl
  · rw [T_congr (j := j) (k := 0) (by omega), T_congr (j := k) (k := 3) (by omega), T_congr (j := j + k) (k := 3) (by omega)]; rfl
  · rw [T_congr (j := j) (k := 1) (by omega), T_congr (j := k) (k := 0) (by omega), T_congr (j := j + k) (k := 1) (by omega)]; rfl
  · rw [T_congr (j := j) (k := 1) (by omega), T_congr (j := k) (k := 1) (by omega), T_congr (j := j + k) (k := 2) (by omega)]; rfl
  · rw [T_congr (j := j) (k := 1) (by omega), T_congr (j := k) (k := 2) (by omega), T_congr (j := j + k) (k := 3) (by omega)]; rfl
  · rw [T_congr (j := j) (k := 1) (by omega), T_congr (j := k) (k := 3) (by omega), T_congr (j := j + k) (k := 0) (by omega)]; rfl
  · rw [T_congr (j := j) (k := 2) (by omega), T_congr (j := k) (k := 0) (by omega), T_congr (j := j + k) (k := 2) (by omega)]; rfl
  · rw [T_congr (j := j) (k := 2) (by omega), T_congr (j := k) (k := 1) (by omega), T_congr (j := j + k) (k := 3) (by omega)]; rfl
  · rw [T_congr (j := j) (k := 2) (by omega), T_congr (j := k) (k := 2) (by omega), T_congr (j := j + k) (k := 0) (by omega)]; rfl
  · rw [T_congr (j := j) (k := 2) (by omega), T_congr (j := k) (k := 3) (by omega), T_congr (j := j + k) (k := 1) (by omega)]; rfl
  · rw [T_congr (j := j) (k := 3) (by omega), T_congr (j := k) (k := 0) (by omega), T_congr (j := j + k) (k := 3) (by omega)]; rfl
  · rw [T_congr (j := j) (k := 3) (by omega), T_congr (j := k) (k := 1) (by omega), T_congr (j := j + k) (k := 0) (by omega)]; rfl
  · rw [T_congr (j := j) (k := 3) (by omega), T_congr (j := k) (k := 2) (by omega), T_congr (j := j + k) (k := 1) (by omega)]; rfl
  · rw [T_congr (j := j) (k := 3) (by omega), T_congr (j := k) (k := 3) (by omega), T_congr (j := j + k) (k := 2) (by omega)]; rfl
theorem T_zero {k : Int} (h : k % 4 = 0) (q : DQ) : d7.T k q = q := (T_congr (k := 0) (by omega) q).trans (T_lit q).1
def DQ.n (a b c d : Nat) : DQ := ⟨a, b, c, d⟩
theorem eqQ_refl (q : DQ) : eqQ q q = true := by unfold eqQ; simp
theorem eqW_refl (x : Int) : eqW d7 x x = true := by unfold eqW; simp
/-- A partial deal, made of numbers. -/
theorem torn {ls : List Int} {w : Int} (hw : 0 ≤ w ∧ w < 18446744073709551616) : ∃ a b c d : Nat, d7.P ls w = DQ.n a b c d ∧ PartD a b c d ∧ a = nd (hnd ls 0) w.toNat ∧ b = nd (hnd ls 1) w.toNat ∧ c = nd (hnd ls 2) w.toNat ∧ d = nd (hnd ls 3) w.toNat := by
  have R := made_right ls
  obtain ⟨w, rfl⟩ : ∃ x : Nat, w = x := ⟨w.toNat, by omega⟩
  refine ⟨_, _, _, _, ?_, R.toPartD.sub (nd_sub (hnd ls 0) w) (nd_sub (hnd ls 1) w) (nd_sub (hnd ls 2) w) (nd_sub (hnd ls 3) w), rfl, rfl, rfl, rfl⟩
  unfold D7.P DQ.n
  rw [show d7.m0 = m0 from rfl, show d7.m1 = m1 from rfl, show d7.m2 = m2 from rfl, show d7.m3 = m3 from rfl]
  unfold m0 m1 m2 m3
  rw [anI_n (lt64 R.la) (by omega), anI_n (lt64 R.lb) (by omega), anI_n (lt64 R.lc) (by omega), anI_n (lt64 R.ld) (by omega)]
theorem in4_N {a b c d : Nat} (h : PartD a b c d) : in4 (a : Int) (b : Int) (c : Int) (d : Int) = true := by
  have ha := lt64 h.la; have hb := lt64 h.lb; have hc := lt64 h.lc; have hd := lt64 h.ld
  have e : ∀ x : Nat, x < 18446744073709551616 → in64 (x : Int) = true := fun x hx => in64_iff.2 ⟨by omega, by omega⟩
  unfold in4
  rw [e a ha, e b hb, e c hc, e d hd]
  rfl
theorem du_is : d7.u = in4 := rfl
theorem U_is (q : DQ) : d7.U q = in4 q.a q.b q.c q.d := by unfold D7.U; rw [du_is]
theorem in4_n {a b c d : Nat} (h : PartD a b c d) : d7.U (DQ.n a b c d) = true := (U_is _).trans (in4_N h)
theorem le_n {a b c d : Nat} (h : PartD a b c d) : d7.Le (DQ.n a b c d) = 0 := by
  show leI (a : Int) (b : Int) (c : Int) (d : Int) = 0
  unfold leI
  rw [parB_iff.2 h]; rfl
theorem wy_n {a b c d : Nat} (h : PartD a b c d) : d7.Wy (DQ.n a b c d) = ((wy (lks a b c d) : Nat) : Int) := by
  show wyI (a : Int) (b : Int) (c : Int) (d : Int) = _
  unfold wyI
  rw [parB_iff.2 h]; rfl
theorem T1_n (a b c d : Nat) : d7.T 1 (DQ.n a b c d) = DQ.n d a b c := rfl
theorem wy_T1 (a b c d : Nat) : wy (lks d a b c) = wy (lks a b c d) := by unfold lks; exact wy_rot _ _ _ _
theorem T_any {a b c d : Nat} (h : PartD a b c d) (k : Int) : ∃ a' b' c' d' : Nat, d7.T k (DQ.n a b c d) = DQ.n a' b' c' d' ∧ PartD a' b' c' d' ∧ wy (lks a' b' c' d') = wy (lks a b c d) := by
  rcases T_four k with g | g | g | g
  · exact ⟨a, b, c, d, T_zero g _, h, rfl⟩
  · exact ⟨d, a, b, c, T_congr (k := 1) (by omega) _, h.rot, wy_T1 _ _ _ _⟩
  · exact ⟨c, d, a, b, T_congr (k := 2) (by omega) _, h.rot.rot, (wy_T1 _ _ _ _).trans (wy_T1 _ _ _ _)⟩
  · exact ⟨b, c, d, a, T_congr (k := 3) (by omega) _, h.rot.rot.rot, (wy_T1 _ _ _ _).trans ((wy_T1 _ _ _ _).trans (wy_T1 _ _ _ _))⟩
theorem tmod4 (a : Int) : (a.tmod 4) % 4 = a % 4 ∧ -4 < a.tmod 4 ∧ a.tmod 4 < 4 := by
  have h1 : a.tmod 4 = if 0 ≤ a then a % 4 else -((-a) % 4) := by
    split
    · exact Int.tmod_eq_emod_of_nonneg (by assumption)
    · have : a = -(-a) := by omega
      rw [this, Int.neg_tmod, Int.tmod_eq_emod_of_nonneg (by omega)]; omega
  rw [h1]; split <;> omega
/-! ### the loop -/
noncomputable def tc6 (a i : Int) (p x : DQ) : Bool := pB (i = 0 ∧ x = d7.T a p)
theorem ld4_T {α : Type} (a : Int) (p : DQ) (i : Nat) (hi : i < 4) (K : Int → Option α) : ld4 (((i : Int) + a) % 4) (d7.T a p) K = ld4 (i : Int) p K := by
  obtain ⟨_, _, _, _⟩ := p
  have hc : i = 0 ∨ i = 1 ∨ i = 2 ∨ i = 3 := by omega
  rcases T_four a with g | g | g | g
  · rw [T_congr (j := a) (k := 0) (by omega)]
    rcases hc with rfl | rfl | rfl | rfl
    · rw [show (((0 : Nat) : Int) + a) % 4 = 0 by omega]; rfl
    · rw [show (((1 : Nat) : Int) + a) % 4 = 1 by omega]; rfl
    · rw [show (((2 : Nat) : Int) + a) % 4 = 2 by omega]; rfl
    · rw [show (((3 : Nat) : Int) + a) % 4 = 3 by omega]; rfl
  · rw [T_congr (j := a) (k := 1) (by omega)]
    rcases hc with rfl | rfl | rfl | rfl
    · rw [show (((0 : Nat) : Int) + a) % 4 = 1 by omega]; rfl
    · rw [show (((1 : Nat) : Int) + a) % 4 = 2 by omega]; rfl
    · rw [show (((2 : Nat) : Int) + a) % 4 = 3 by omega]; rfl
    · rw [show (((3 : Nat) : Int) + a) % 4 = 0 by omega]; rfl
  · rw [T_congr (j := a) (k := 2) (by omega)]
    rcases hc with rfl | rfl | rfl | rfl
    · rw [show (((0 : Nat) : Int) + a) % 4 = 2 by omega]; rfl
    · rw [show (((1 : Nat) : Int) + a) % 4 = 3 by omega]; rfl
    · rw [show (((2 : Nat) : Int) + a) % 4 = 0 by omega]; rfl
    · rw [show (((3 : Nat) : Int) + a) % 4 = 1 by omega]; rfl
  · rw [T_congr (j := a) (k := 3) (by omega)]
    rcases hc with rfl | rfl | rfl | rfl
    · rw [show (((0 : Nat) : Int) + a) % 4 = 3 by omega]; rfl
    · rw [show (((1 : Nat) : Int) + a) % 4 = 0 by omega]; rfl
    · rw [show (((2 : Nat) : Int) + a) % 4 = 1 by omega]; rfl
    · rw [show (((3 : Nat) : Int) + a) % 4 = 2 by omega]; rfl
theorem ld4_n {α : Type} (p : DQ) (i : Nat) (hi : i < 4) : ∃ v, ∀ K : Int → Option α, ld4 (i : Int) p K = K v := by
  have hc : i = 0 ∨ i = 1 ∨ i = 2 ∨ i = 3 := by omega
  rcases hc with rfl | rfl | rfl | rfl
  · exact ⟨p.a, fun _ => rfl⟩
  · exact ⟨p.b, fun _ => rfl⟩
  · exact ⟨p.c, fun _ => rfl⟩
  · exact ⟨p.d, fun _ => rfl⟩
theorem tu_loop (nn : Bool) (rd : Option Nat) (a b : Int) (p : DQ) (ls : List Int) : ∀ i : Nat, i ≤ 4 →
    SimC Try.prog 1 rd (.loop tuLp) ((tuT nn).at (.i a :: .i b :: .i (i : Int) :: tuPs p (d7.T a p) ls)) (.exit 0) ((tuX nn).at (.i a :: .i b :: tuPs p (d7.T a p) ls)) := by
  refine loop_of_rounds (C := orcZ7) (L := noLoops) (N := 100) (me := 3) (T := tuT nn) (T' := tuX nn) (orcN_ok emptyTab_ok plainL_ok) mixed noLoops_ok (by cases nn <;> kernel_rfl) (by cases nn <;> kernel_rfl) (X := Nat)
    (fun i => .i a :: .i b :: .i (i : Int) :: tuPs p (d7.T a p) ls) (fun i => i ≤ 4) (fun i => 4 - i) (fun _ => (.exit 0, .i a :: .i b :: tuPs p (d7.T a p) ls)) ?_
  intro i hi
  have h := tu_round nn rd a b (i : Int) p (d7.T a p) ls
  by_cases hlt : i < 4
  · obtain ⟨v, hv⟩ := ld4_n (α := XE × List PV × List (Code × Code)) p i hlt
    rw [decide_eq_true (show (i : Int) < 4 by omega), cond_true, tnX_is i hlt, ld4_T a p i hlt, hv, hv, decide_eq_true rfl, Bool.not_true, cond_false, wr64 (by omega) (by omega)] at h
    exact ⟨_, _, _, h, codesNil, .inl ⟨rfl, i + 1, rfl, by omega, by omega, rfl⟩⟩
  · rw [decide_eq_false (show ¬ (i : Int) < 4 by omega), cond_false] at h
    exact ⟨_, _, _, h, codesNil, .inr ⟨(fun h => by cases h), rfl⟩⟩
theorem tuL_ok (nn : Bool) : loopsOk Try.prog (tuL tc6 nn) := by
  intro n g hg
  simp only [tuL, sums] at hg
  split at hg
  · cases hg
    refine lsumF_ok (by cases nn <;> kernel_rfl) (fun rd ps e1 s1 h => ?_)
    unfold tuTr at h
    split at h
    · rename_i a b i ls p0 p1 p2 p3 x0 x1 x2 x3
      simp only [Fin.pick] at h
      cases hc : tc6 a i ⟨p0, p1, p2, p3⟩ ⟨x0, x1, x2, x3⟩ with
      | false => rw [hc] at h; cases h
      | true =>
        rw [hc, cond_true] at h
        unfold tc6 at hc
        rw [pB_iff] at hc
        obtain ⟨rfl, hx⟩ := hc
        have hl := tu_loop nn rd a b ⟨p0, p1, p2, p3⟩ ls 0 (by omega)
        rw [← hx] at hl
        cases h
        exact hl
    · cases h
  · cases hg
theorem turns_true (nn : Bool) {ls : List Int} (hv : okV ls) {w : Int} (hw : 0 ≤ w ∧ w < 18446744073709551616) (a b : Int) :
    evalFn Try.prog (orc7 d7) (tuL tc6 nn) 100 3 Try.f3 [.gs 0, .int .u64 w, .int .i64 a, .int .i64 b] [.rs nn 1 (.ints .u8 ls)] (fun v _ => some v) = some (.bool true) := by
  refine (turns_eval d7 tc6 nn ls w a b).trans ?_
  obtain ⟨p0, p1, p2, p3, hP, h, _⟩ := torn (ls := ls) hw
  obtain ⟨x0, x1, x2, x3, hX, hx, hwy⟩ := T_any h a
  have ha := tmod4 a; have hb := tmod4 b
  rw [show d7.ok ls = true from pB_iff.2 hv, cond_true, codesD, cond_true, show tc6 a 0 (d7.P ls w) (d7.T a (d7.P ls w)) = true from pB_iff.2 ⟨rfl, rfl⟩, cond_true]
  have e1 : d7.T 1 (d7.T 1 (d7.T 1 (d7.T 1 (d7.P ls w)))) = d7.P ls w := by
    rw [T_add, T_add, T_add]; exact T_zero (by decide) _
  have e2 : d7.T b (d7.T a (d7.P ls w)) = d7.T (wr .i64 (a.tmod 4 + b.tmod 4)) (d7.P ls w) := by
    rw [T_add]
    exact T_congr (by rw [wr64 (by omega) (by omega)]; omega) _
  have e3 : d7.T (wr .i64 (0 - a.tmod 4)) (d7.T a (d7.P ls w)) = d7.P ls w := by
    rw [T_add]
    exact T_zero (by rw [wr64 (by omega) (by omega)]; omega) _
  unfold tuRest
  rw [e1, e2, e3, eqQ_refl, eqQ_refl, hP, hX, in4_n h, in4_n hx, le_n h, le_n hx, wy_n h, wy_n hx, hwy, eqW_refl]
  rfl
end Go.Proofs.Ytpalajfcffdhoaa
