/- Texts merged: SeQ2, SFrame, SErr. -/
import Derived.Test.YtpalajfcffdhoaaSeQ
import Derived.Test.YtpalajfcffdhoaaEng4
import Derived.Test.YtpalajfcffdhoaaRows
/- Chapter 6: the law DealSeats answers true. -/
namespace Go.Proofs.Ytpalajfcffdhoaa
open Go Go.Eng Go.Deal
noncomputable def cs6 (c s : Int) (P _W S : DQ) : Bool := pB (s = 0 ∧ S = ⟨0, 0, 0, 0⟩ ∧ ∃ a b e d k : Nat, P = DQ.n a b e d ∧ c = (k : Int) ∧ PartD a b e d ∧ (lf a b e d).testBit k = true)
noncomputable def sm6 (_ : Int) (P : DQ) : Int := d7.Wy P
theorem w0_is : DQ.w d7 ((0 : Nat) : Int) = ⟨0, 0, 0, 0⟩ := by
  show (⟨N2.w0 ((0 : Nat) : Int), N2.w1 ((0 : Nat) : Int), N2.w2 ((0 : Nat) : Int), N2.w3 ((0 : Nat) : Int)⟩ : DQ) = _
  rw [w00, w10, w20, w30]
theorem seLL_ok (nn : Bool) : loopsOk Try.prog (seLL d7 cs6 sm6 nn) := by
  intro n g hg
  simp only [seLL, sums] at hg
  split at hg
  · cases hg
    refine lsumF_ok (by cases nn <;> kernel_rfl) (fun rd ps e1 s1 h => ?_)
    unfold seTr at h
    split at h
    · rename_i c s ls p0 p1 p2 p3 w0 w1 w2 w3 s0 s1 s2 s3
      simp only [Fin.pick] at h
      cases hc : cs6 c s ⟨p0, p1, p2, p3⟩ ⟨w0, w1, w2, w3⟩ ⟨s0, s1, s2, s3⟩ with
      | false => rw [hc] at h; cases h
      | true =>
        rw [hc, cond_true] at h
        unfold cs6 at hc
        rw [pB_iff] at hc
        obtain ⟨rfl, hS, a, b, e, d, k, hP, rfl, hp, hl⟩ := hc
        have hL := se_loop nn rd ls ⟨w0, w1, w2, w3⟩ hp hl 0 (by omega)
        have e4 : ((seS a b e d k 4 : Nat) : Int) = sm6 (k : Int) ⟨p0, p1, p2, p3⟩ := by
          unfold sm6
          rw [hP, wy_n hp, ← hp.seats hl]
          rfl
        rw [e4, ← hP] at hL
        have e0 : DQ.w d7 ((seS a b e d k 0 : Nat) : Int) = ⟨s0, s1, s2, s3⟩ := by rw [hS]; exact w0_is
        rw [e0] at hL
        cases h
        exact hL
    · cases h
  · cases hg
theorem tmod52 {c : Int} (h : 0 ≤ c) : ∃ k : Nat, c.tmod 52 = (k : Int) ∧ k < 52 := by
  rw [Int.tmod_eq_emod_of_nonneg h]
  exact ⟨(c % 52).toNat, by omega, by omega⟩
theorem wy_right {a b c d : Nat} (r : RightD a b c d) : wy (lks a b c d) = 1 := by
  unfold lks lk
  rw [r.ea, r.eb, r.ec, r.ed]
  decide
theorem lf_right {a b c d : Nat} (r : RightD a b c d) : lf a b c d = 0 := by
  unfold lf
  rw [r.all, nd_zero]
  exact Sub.refl _
theorem sub_zero {g : Nat} (h : Sub g 0) : g = 0 := Nat.eq_of_testBit_eq fun i => by
  rw [Nat.zero_testBit]
  cases hg : g.testBit i with
  | false => rfl
  | true => have := h i hg; rw [Nat.zero_testBit] at this; cases this
theorem cp_right {a b c d : Nat} (r : RightD a b c d) : cpG a b c d 0 = (a, b, c, d) := by
  obtain ⟨g0, g1, g2, g3, _, G, _, _, E⟩ := cp_ok r.toPartD (n := 0) (by rw [wy_right r]; decide)
  obtain ⟨s0, _, s1, _, s2, _, s3, _, _⟩ := G
  have z : ∀ m, nd 0 m = 0 := fun m => nd_zero.2 (fun i h => by rw [Nat.zero_testBit] at h; cases h)
  rw [lf_right r] at s0 s1 s2 s3
  rw [z] at s1 s2 s3
  rw [z] at s2 s3
  rw [z] at s3
  rw [E, sub_zero s0, sub_zero s1, sub_zero s2, sub_zero s3, Nat.or_zero, Nat.or_zero, Nat.or_zero, Nat.or_zero]
theorem lfI_n {a b c d : Nat} (h : PartD a b c d) : d7.Lf (DQ.n a b c d) = ((lf a b c d : Nat) : Int) := by
  show lfI (a : Int) (b : Int) (c : Int) (d : Int) = _
  unfold lfI
  rw [parB_iff.2 h]; rfl
theorem lf_torn (ls : List Int) (w : Nat) (i : Nat) : (lf (nd (hnd ls 0) w) (nd (hnd ls 1) w) (nd (hnd ls 2) w) (nd (hnd ls 3) w)).testBit i = (decide (i < 52) && w.testBit i) := by
  have R := made_right ls
  have hu := R.all
  have hb : (un (hnd ls 0) (hnd ls 1) (hnd ls 2) (hnd ls 3)).testBit i = decide (i < 52) := by rw [hu, al_bit]
  rw [un_bit] at hb
  unfold lf
  rw [nd_bit, al_bit, un_bit, nd_bit, nd_bit, nd_bit, nd_bit, ← hb]
  cases (hnd ls 0).testBit i <;> cases (hnd ls 1).testBit i <;> cases (hnd ls 2).testBit i <;> cases (hnd ls 3).testBit i <;> cases w.testBit i <;> rfl
theorem seats_true (nn : Bool) {ls : List Int} (hv : okV ls) {w : Int} (hw : 0 ≤ w ∧ w < 18446744073709551616) {c : Int} (hc : 0 ≤ c) :
    evalFn Try.prog (orc7 d7) (seLL d7 cs6 sm6 nn) 100 4 Try.f4 [.gs 0, .int .u64 w, .int .u8 c] [.rs nn 1 (.ints .u8 ls)] (fun v _ => some v) = some (.bool true) := by
  refine (seats_eval d7 cs6 sm6 nn ls w c).trans ?_
  obtain ⟨k, hk, k52⟩ := tmod52 hc
  obtain ⟨v, rfl⟩ : ∃ x : Nat, w = x := ⟨w.toNat, by omega⟩
  have pk : 2 ^ k < 18446744073709551616 := lt64 (Nat.pow_lt_pow_right (by decide) k52)
  have hor : orI (v : Int) (shlI (k : Int)) = ((v ||| 2 ^ k : Nat) : Int) := by rw [shlI_n (by omega)]; exact orI_n (by omega) pk
  have hor64 := or64 (show v < 18446744073709551616 by omega) pk
  obtain ⟨p0, p1, p2, p3, hP, PD, t0, t1, t2, t3⟩ := torn (ls := ls) (w := ((v ||| 2 ^ k : Nat) : Int)) ⟨by omega, by omega⟩
  rw [Int.toNat_natCast] at t0 t1 t2 t3
  have R := made_right ls
  have hl : ∀ i, (lf p0 p1 p2 p3).testBit i = (decide (i < 52) && (v ||| 2 ^ k).testBit i) := fun i => by rw [t0, t1, t2, t3]; exact lf_torn ls _ i
  have hlk : (lf p0 p1 p2 p3).testBit k = true := by rw [hl, decide_eq_true k52, tb_put]; rfl
  have e52 : (2 : Nat) ^ 52 = 4503599627370496 := by decide
  have hlf : lf p0 p1 p2 p3 = v % 4503599627370496 ||| 2 ^ k := Nat.eq_of_testBit_eq fun i => by
    rw [hl, Nat.testBit_or, Nat.testBit_or, Nat.testBit_two_pow, ← e52, Nat.testBit_mod_two_pow]
    by_cases hi : i < 52
    · rw [decide_eq_true hi]; simp
    · rw [decide_eq_false hi, decide_eq_false (show ¬ k = i by omega)]; simp
  have hlfI : orI ((v : Int).tmod 4503599627370496) (shlI (k : Int)) = ((lf p0 p1 p2 p3 : Nat) : Int) := by
    rw [Int.tmod_eq_emod_of_nonneg (by omega), show (v : Int) % 4503599627370496 = ((v % 4503599627370496 : Nat) : Int) by omega, hlf, shlI_n (by omega)]
    exact orI_n (by omega) pk
  have hbit : bitI (((lf p0 p1 p2 p3 : Nat)) : Int) (k : Int) = 1 := by rw [bitI_n (lt64 PD.lf_lt) (by omega), if_pos hlk]
  have hC : cs6 (k : Int) 0 (DQ.n p0 p1 p2 p3) (DQ.w d7 (d7.Wy (DQ.n p0 p1 p2 p3))) ⟨0, 0, 0, 0⟩ = true := by
    unfold cs6
    rw [pB_iff]
    exact ⟨rfl, rfl, p0, p1, p2, p3, k, rfl, rfl, PD, hlk⟩
  have Cz := cpI_n R.toPartD (n := 0) (by rw [wy_right R]; decide) (cp_right R)
  have z0 : n6.z 0 0 0 0 = ((0 : Nat) : Int) := smallz 0
  have i0 : n6.inn 0 0 0 0 = true := smalli (x := 0) (by decide)
  have hone : eqOne d7 (d7.Wy (d7.M ls)) = true := by
    rw [M_n, wy_n R.toPartD, wy_right R]
    unfold eqOne
    rw [d7n, nw0, nw1, nw2, nw3, w01, w11, w21, w31]
    rfl
  rw [hk, decide_eq_false (show ¬ (k : Int) < 0 by omega), cond_false, show d7.ok ls = true from pB_iff.2 hv, cond_true, hor, hP]
  unfold se1
  rw [in4_n PD, le_n PD, lfI_n PD, hbit, hlfI, hC, codesD, cond_true, cond_true, decide_eq_true (show (0 : Int) = 0 from rfl), decide_eq_false (show ¬ (k : Int) < 0 by omega), decide_eq_false (show ¬ (1 : Int) = 0 by decide)]
  have hll : decide (((lf p0 p1 p2 p3 : Nat) : Int) = ((lf p0 p1 p2 p3 : Nat) : Int)) = true := decide_eq_true rfl
  rw [hll]
  unfold se2 sm6
  rw [hone, show d7.ok ls = true from pB_iff.2 hv, eqW_refl, d7n, z0, i0, M_n, in4_n R.toPartD, le_n R.toPartD, Cz.1, Cz.2, eqQ_refl]
  rfl
end Go.Proofs.Ytpalajfcffdhoaa

/- What a row asks behind a call that leaves all that was there as it was: the engine's Frame. -/

/- Chapter 3: what the functions of the generator answer where a state or a bound is not right; the comparison of two numbers; the seed's state. -/
namespace Go.Proofs.Ytpalajfcffdhoaa.N3
open Go Go.Eng

noncomputable def ftab : FTab := fun i => Try.prog.funcs[i]?
theorem ftab_ok : FTabOk Try.prog ftab := fun _ _ h => h
theorem mixed : Try.prog.follows .mixedOrders = true := by kernel_rfl
def never : FuncId → Bool := fun _ => false
noncomputable abbrev orc (T : PTab) (LL : FuncId → Loops) : Oracle := inl Try.prog ftab T LL 100 never never (oracleOf emptyTab) 20
noncomputable abbrev evalAt (T : PTab) (LL : FuncId → Loops) (f : FuncId) (fn : Func) (args : List V) : Option V :=
  evalFn Try.prog (orc T LL) (LL f) 100 f fn args [] (fun v _ => some v)
theorem pure_at {T : PTab} (hT : PTabOk Try.prog T) {LL : FuncId → Loops} (hL : ∀ f, loopsOk Try.prog (LL f)) {f : FuncId} {fn : Func} {args : List V} {v : V} (hf : Try.prog.funcs[f]? = some fn) (hb : enterB fn = true)
    (h : evalAt T LL f fn args = some v) (ha : plainVs args = true) (hv : plainV v = true) : FnPure Try.prog f args v :=
  fnPure_of_eval (inl_ok (oracleOf_ok emptyTab_ok) ftab_ok hT hL mixed 20) mixed hf hb (hL f) h ha hv

def plainL : FuncId → Loops := fun _ => noLoops
theorem plainL_ok : ∀ f, loopsOk Try.prog (plainL f) := fun _ => noLoops_ok

/-! ### a right state; the seed's state; two numbers -/
def rightB (s : Int) : Bool := decide (1 ≤ s) && decide (s ≤ 2147483646)
def ofI (n : Int) : Int := bif decide (n.tmod 2147483646 < 0) then wr .i64 (1 + wr .i64 (n.tmod 2147483646 + 2147483646)) else wr .i64 (1 + n.tmod 2147483646)
def cmpI (a0 a1 a2 a3 b0 b1 b2 b3 : Int) : Int :=
  bif decide (a3 < b3) then -1 else bif decide (b3 < a3) then 1 else bif decide (a2 < b2) then -1 else bif decide (b2 < a2) then 1 else
  bif decide (a1 < b1) then -1 else bif decide (b1 < a1) then 1 else bif decide (a0 < b0) then -1 else bif decide (b0 < a0) then 1 else 0

theorem right_eval (s : Int) : evalAt emptyTab plainL 27 Try.f27 [.int .i64 s] = bif decide (1 ≤ s) then some (.bool (decide (s ≤ 2147483646))) else some (.bool false) := by kernel_rfl
theorem right_pure (s : Int) : FnPure Try.prog 27 [.int .i64 s] (.bool (rightB s)) := by
  refine pure_at emptyTab_ok plainL_ok Try.func27 (by kernel_rfl) ?_ rfl rfl
  rw [right_eval, rightB]
  cases decide (1 ≤ s) <;> rfl
theorem of_eval (n : Int) : evalAt emptyTab plainL 26 Try.f26 [.int .i64 n] = bif decide (n.tmod 2147483646 < 0) then some (.int .i64 (wr .i64 (1 + wr .i64 (n.tmod 2147483646 + 2147483646)))) else some (.int .i64 (wr .i64 (1 + n.tmod 2147483646))) := by kernel_rfl
theorem of_pure (n : Int) : FnPure Try.prog 26 [.int .i64 n] (.int .i64 (ofI n)) := by
  refine pure_at emptyTab_ok plainL_ok Try.func26 (by kernel_rfl) ?_ rfl rfl
  rw [of_eval, ofI]
  cases decide (n.tmod 2147483646 < 0) <;> rfl
theorem cmp_eval (a0 a1 a2 a3 b0 b1 b2 b3 : Int) : evalAt emptyTab plainL 21 Try.f21 [.agg [.int .u32 a0, .int .u32 a1, .int .u32 a2, .int .u32 a3], .agg [.int .u32 b0, .int .u32 b1, .int .u32 b2, .int .u32 b3]] =
    bif decide (a3 < b3) then some (.int .i64 (-1)) else bif decide (b3 < a3) then some (.int .i64 1) else bif decide (a2 < b2) then some (.int .i64 (-1)) else bif decide (b2 < a2) then some (.int .i64 1) else
    bif decide (a1 < b1) then some (.int .i64 (-1)) else bif decide (b1 < a1) then some (.int .i64 1) else bif decide (a0 < b0) then some (.int .i64 (-1)) else bif decide (b0 < a0) then some (.int .i64 1) else some (.int .i64 0) := by kernel_rfl
theorem some_bif {b : Bool} {x y : Int} {k : IntKind} : (bif b then some (V.int k x) else some (V.int k y)) = some (V.int k (bif b then x else y)) := by cases b <;> rfl
theorem cmp_pure (a0 a1 a2 a3 b0 b1 b2 b3 : Int) : FnPure Try.prog 21 [.agg [.int .u32 a0, .int .u32 a1, .int .u32 a2, .int .u32 a3], .agg [.int .u32 b0, .int .u32 b1, .int .u32 b2, .int .u32 b3]] (.int .i64 (cmpI a0 a1 a2 a3 b0 b1 b2 b3)) := by
  refine pure_at emptyTab_ok plainL_ok Try.func21 (by kernel_rfl) ?_ rfl rfl
  rw [cmp_eval]
  simp only [some_bif, cmpI]
def gAwake : List V → Option (Bool × V)
  | [] => some (true, .bool true)
  | _ => none
def gOf : List V → Option (Bool × V)
  | [.int .i64 n] => some (true, .int .i64 (ofI n))
  | _ => none
def gRight : List V → Option (Bool × V)
  | [.int .i64 s] => some (true, .bool (rightB s))
  | _ => none
def gCmp : List V → Option (Bool × V)
  | [.agg [.int .u32 a0, .int .u32 a1, .int .u32 a2, .int .u32 a3], .agg [.int .u32 b0, .int .u32 b1, .int .u32 b2, .int .u32 b3]] => some (true, .int .i64 (cmpI a0 a1 a2 a3 b0 b1 b2 b3))
  | _ => none
def tab1 : PTab := addTab 27 gRight (addTab 26 gOf (addTab 21 gCmp emptyTab))
theorem gOf_ok : ∀ args c v, gOf args = some (c, v) → c = true → FnPure Try.prog 26 args v := by
  intro args c v h _
  unfold gOf at h
  split at h
  · cases h; exact of_pure _
  · cases h
theorem gRight_ok : ∀ args c v, gRight args = some (c, v) → c = true → FnPure Try.prog 27 args v := by
  intro args c v h _
  unfold gRight at h
  split at h
  · cases h; exact right_pure _
  · cases h
theorem gCmp_ok : ∀ args c v, gCmp args = some (c, v) → c = true → FnPure Try.prog 21 args v := by
  intro args c v h _
  unfold gCmp at h
  split at h
  · cases h; exact cmp_pure _ _ _ _ _ _ _ _
  · cases h
theorem tab1_ok : PTabOk Try.prog tab1 := addTab_ok gRight_ok (addTab_ok gOf_ok (addTab_ok gCmp_ok emptyTab_ok))

/-! ### what is not right is rejected -/
def errL : FuncId → Loops := fun f => match f with
  | 28 => decs (fun r => match r with | 2 => some true | _ => none)
  | _ => noLoops
theorem errL_ok : ∀ f, loopsOk Try.prog (errL f) := fun f => by
  unfold errL
  split <;> first | exact decs_ok | exact noLoops_ok
def belowB (s n : Int) : Bool := !rightB s || (decide (n < 1) || decide (2147483646 < n))
def zeroB (m0 m1 m2 m3 : Int) : Bool := decide (m0 = 0) && (decide (m1 = 0) && (decide (m2 = 0) && (decide (m3 = 0) && true)))
def natB (s m0 m1 m2 m3 : Int) : Bool := !rightB s || (zeroB m0 m1 m2 m3 || decide (0 < cmpI m0 m1 m2 m3 0 0 0 16777216))
def err3 : V := .tuple [.int .i64 0, .int .i64 0, .int .i64 2]
def err2 : V := .tuple [.int .i64 0, .int .i64 2]
def errN : V := .tuple [.int .i64 0, .agg [.int .u32 0, .int .u32 0, .int .u32 0, .int .u32 0], .int .i64 2]

theorem nat_eval (s m0 m1 m2 m3 : Int) : evalAt tab1 errL 28 Try.f28 [.int .i64 s, .agg [.int .u32 m0, .int .u32 m1, .int .u32 m2, .int .u32 m3]] =
    bif !rightB s then some errN else bif zeroB m0 m1 m2 m3 then some errN else bif decide (0 < cmpI m0 m1 m2 m3 0 0 0 16777216) then some errN else none := by kernel_rfl
theorem nat_err {s m0 m1 m2 m3 : Int} (h : natB s m0 m1 m2 m3 = true) : FnPure Try.prog 28 [.int .i64 s, .agg [.int .u32 m0, .int .u32 m1, .int .u32 m2, .int .u32 m3]] errN := by
  refine pure_at tab1_ok errL_ok Try.func28 (by kernel_rfl) ?_ rfl rfl
  rw [nat_eval]
  unfold natB at h
  cases h1 : !rightB s with
  | true => rfl
  | false =>
    cases h2 : zeroB m0 m1 m2 m3 with
    | true => rfl
    | false =>
      rw [h1, h2, Bool.false_or, Bool.false_or] at h
      rw [h]; rfl

def gNextE : List V → Option (Bool × V)
  | [.int .i64 s] => some (!rightB s, err3)
  | _ => none
def gJumpE : List V → Option (Bool × V)
  | [.int .i64 s, .int .i64 _] => some (!rightB s, err2)
  | _ => none
def gBelowE : List V → Option (Bool × V)
  | [.int .i64 s, .int .i64 n] => some (belowB s n, err3)
  | _ => none
def gNatE : List V → Option (Bool × V)
  | [.int .i64 s, .agg [.int .u32 m0, .int .u32 m1, .int .u32 m2, .int .u32 m3]] => some (natB s m0 m1 m2 m3, errN)
  | _ => none
end Go.Proofs.Ytpalajfcffdhoaa.N3
