/- Texts merged: SRf1, SRf2, SRnT, SRnR. -/
import Derived.Test.YtpalajfcffdhoaaGreatSNbP
import Derived.Test.YtpalajfcffdhoaaGreatARDiv
import Derived.Test.YtpalajfcffdhoaaGreatARMul
/- Chapter 3: the reference: products modulo the prime, by adding. -/
namespace Go.Proofs.YtpalajfcffdhoaaGreat.N3
open Go Go.Eng
noncomputable def tmLp : Code := loopOf 2 Tryz.f76
def tmT : Tm := ⟨mkS [(0, .int .i64), (1, .int .i64), (5, .int .i64)] 0 22, [], []⟩
def tmX : Tm := ⟨mkS [(5, .int .i64)] 0 22, [], []⟩
abbrev MP : Int := 2147483647
theorem tm_round (rd : Option Nat) (a b r : Int) : roundT Tryz.prog (orc emptyTab plainL) noLoops 100 0 rd 76 tmLp tmT tmX [.i a, .i b, .i r] =
    bif decide (0 < b) then bif decide (b.tmod 2 = 1) then some (.normal, [.i ((wr .i64 (a + a)).tmod 2147483647), .i (wr .i64 (b.tdiv 2)), .i ((wr .i64 (r + a)).tmod 2147483647)], [])
      else some (.normal, [.i ((wr .i64 (a + a)).tmod 2147483647), .i (wr .i64 (b.tdiv 2)), .i r], []) else some (.exit 0, [.i r], []) := by kernel_rfl
theorem tm_double {a b r : Int} (hb : b % 2 = 0) : (r + (a + a) % 2147483647 * (b / 2)) % 2147483647 = (r + a * b) % 2147483647 := by
  have e : a * b = (a + a) * (b / 2) := by
    have h : b = 2 * (b / 2) := by omega
    conv => lhs; rw [h]
    rw [← Int.mul_assoc, Int.mul_comm a 2, show (2 : Int) * a = a + a by omega]
  rw [e, Int.add_emod, Int.mul_emod, Int.emod_emod_of_dvd _ (Int.dvd_refl _), ← Int.mul_emod, ← Int.add_emod]
theorem tm_odd {a b r : Int} (hb : b % 2 = 1) : ((r + a) % 2147483647 + (a + a) % 2147483647 * (b / 2)) % 2147483647 = (r + a * b) % 2147483647 := by
  have h2 : (b - 1) % 2 = 0 := by omega
  have h3 : (b - 1) / 2 = b / 2 := by omega
  have := tm_double (a := a) (b := b - 1) (r := (r + a) % 2147483647) h2
  rw [h3] at this
  rw [this, Int.emod_add_emod]
  congr 1
  rw [Int.mul_sub, Int.mul_one]; omega
theorem tm_loop (rd : Option Nat) : ∀ x : Int × Int × Int, (0 ≤ x.1 ∧ x.1 < 2147483647 ∧ 0 ≤ x.2.1 ∧ x.2.1 < 9223372036854775808 ∧ 0 ≤ x.2.2 ∧ x.2.2 < 2147483647) →
    SimC Tryz.prog 0 rd (.loop tmLp) (tmT.at [.i x.1, .i x.2.1, .i x.2.2]) (.exit 0) (tmX.at [.i ((x.2.2 + x.1 * x.2.1) % 2147483647)]) := by
  refine loop_of_rounds (C := orc emptyTab plainL) (L := noLoops) (N := 100) (me := 76) (T := tmT) (T' := tmX) (inl_ok (oracleOf_ok emptyTab_ok) ftab_ok emptyTab_ok plainL_ok mixed 20) mixed (noLoops_ok) (by kernel_rfl) (by kernel_rfl) (X := Int × Int × Int)
    (fun x => [.i x.1, .i x.2.1, .i x.2.2]) (fun x => 0 ≤ x.1 ∧ x.1 < 2147483647 ∧ 0 ≤ x.2.1 ∧ x.2.1 < 9223372036854775808 ∧ 0 ≤ x.2.2 ∧ x.2.2 < 2147483647) (fun x => x.2.1.toNat) (fun x => (.exit 0, [.i ((x.2.2 + x.1 * x.2.1) % 2147483647)])) ?_
  rintro ⟨a, b, r⟩ ⟨ha, ha', hb, hb', hr, hr'⟩
  dsimp only at ha ha' hb hb' hr hr' ⊢
  have h := tm_round rd a b r
  have w1 : (wr .i64 (a + a)).tmod 2147483647 = (a + a) % 2147483647 := by rw [wr64 (by omega) (by omega), Int.tmod_eq_emod_of_nonneg (by omega)]
  have w2 : wr .i64 (b.tdiv 2) = b / 2 := by rw [Int.tdiv_eq_ediv_of_nonneg hb, wr64 (by omega) (by omega)]
  have w3 : (wr .i64 (r + a)).tmod 2147483647 = (r + a) % 2147483647 := by rw [wr64 (by omega) (by omega), Int.tmod_eq_emod_of_nonneg (by omega)]
  rw [w1, w2, w3] at h
  by_cases h0 : 0 < b
  · rw [decide_eq_true h0, cond_true] at h
    by_cases h1 : b.tmod 2 = 1
    · rw [decide_eq_true h1, cond_true] at h
      rw [Int.tmod_eq_emod_of_nonneg hb] at h1
      refine ⟨_, _, _, h, codesN, .inl ⟨rfl, ((a + a) % 2147483647, b / 2, (r + a) % 2147483647), rfl, by dsimp only; omega, by dsimp only; omega, ?_⟩⟩
      dsimp only
      rw [tm_odd h1]
    · rw [decide_eq_false h1, cond_false] at h
      rw [Int.tmod_eq_emod_of_nonneg hb] at h1
      refine ⟨_, _, _, h, codesN, .inl ⟨rfl, ((a + a) % 2147483647, b / 2, r), rfl, by dsimp only; omega, by dsimp only; omega, ?_⟩⟩
      dsimp only
      rw [tm_double (by omega)]
  · rw [decide_eq_false h0, cond_false] at h
    refine ⟨_, _, _, h, codesN, .inr ⟨by simp, ?_⟩⟩
    have : b = 0 := by omega
    subst this
    rw [Int.mul_zero, Int.add_zero, Int.emod_eq_of_lt hr hr']
def tmFin : List PV → Fin
  | [.i a, .i b, .i r] => .br (decide (0 ≤ a ∧ a < 2147483647 ∧ 0 ≤ b ∧ b < 9223372036854775808 ∧ 0 ≤ r ∧ r < 2147483647)) (.leaf (.exit 0) (tmX.at [.i ((r + a * b) % 2147483647)])) .no
  | _ => .no
noncomputable def tmSum : LoopSum := lsumF 0 tmT tmLp tmFin
theorem tmSum_ok : LoopOk Tryz.prog tmSum := by
  refine lsumF_ok (by kernel_rfl) fun rd ps e s h => ?_
  unfold tmFin at h
  split at h
  · rename_i a b r
    simp only [Fin.pick] at h
    cases hi : decide (0 ≤ a ∧ a < 2147483647 ∧ 0 ≤ b ∧ b < 9223372036854775808 ∧ 0 ≤ r ∧ r < 2147483647) with
    | false => rw [hi] at h; cases h
    | true =>
      rw [hi, cond_true] at h
      cases h
      exact tm_loop rd (a, b, r) (of_decide_eq_true hi)
  · cases h
noncomputable def tmL : Loops := sums (fun n => match n with | 2 => some tmSum | _ => none)
theorem tmL_ok : loopsOk Tryz.prog tmL := by
  intro n g hg
  simp only [tmL, sums] at hg
  split at hg
  · cases hg; exact tmSum_ok
  · cases hg
def tmI (a b : Int) : Int := (a * b) % 2147483647
theorem tm_eval (a b : Int) : evalFn Tryz.prog (orc emptyTab plainL) tmL 100 76 Tryz.f76 [.int .i64 a, .int .i64 b] [] (fun v _ => some v) =
    bif codesB [(tmLp, tmLp)] then bif decide (0 ≤ a ∧ a < 2147483647 ∧ 0 ≤ b ∧ b < 9223372036854775808 ∧ (0 : Int) ≤ 0 ∧ (0 : Int) < 2147483647) then some (.int .i64 ((0 + a * b) % 2147483647)) else none else none := by kernel_rfl
theorem tm_pure {a b : Int} (ha : 0 ≤ a) (ha' : a < 2147483647) (hb : 0 ≤ b) (hb' : b < 9223372036854775808) : FnPure Tryz.prog 76 [.int .i64 a, .int .i64 b] (.int .i64 (tmI a b)) := by
  refine fnPure_of_eval (C := orc emptyTab plainL) (N := 100) (inl_ok (oracleOf_ok emptyTab_ok) ftab_ok emptyTab_ok plainL_ok mixed 20) mixed Tryz.func76 (by kernel_rfl) tmL_ok ?_ rfl rfl
  have hc : codesB [(tmLp, tmLp)] = true := by
    rw [codesB_iff]; intro x hx; simp at hx; rw [hx]
  rw [tm_eval, hc, cond_true, decide_eq_true (by omega), cond_true, Int.zero_add]
  rfl
/-- Products and powers, as names alone. -/
structure RP where
  tm : Int → Int → Int
  okT : Int → Int → Bool
  pw : Int → Int
  okP : Int → Bool
def okTm (a b : Int) : Bool := decide (0 ≤ a ∧ a < 2147483647 ∧ 0 ≤ b ∧ b < 9223372036854775808)
def pwI (k : Int) : Int := ((J 1 k.toNat : Nat) : Int)
def okPw (n : Nat) (k : Int) : Bool := decide (0 ≤ k ∧ k < n)
def rP (n : Nat) : RP := ⟨tmI, okTm, pwI, okPw n⟩
def gTm (Q : RP) : List V → Option (Bool × V)
  | [.int .i64 a, .int .i64 b] => some (Q.okT a b, .int .i64 (Q.tm a b))
  | _ => none
def gPw (Q : RP) : List V → Option (Bool × V)
  | [.int .i64 k] => some (Q.okP k, .int .i64 (Q.pw k))
  | _ => none
def tabPw (Q : RP) : PTab := addTab 76 (gTm Q) emptyTab
theorem gTm_ok (n : Nat) : ∀ args c v, gTm (rP n) args = some (c, v) → c = true → FnPure Tryz.prog 76 args v := by
  intro args c v h hc
  unfold gTm at h
  split at h
  · cases h
    have hc' : okTm _ _ = true := hc
    simp only [okTm, decide_eq_true_eq] at hc'
    exact tm_pure hc'.1 hc'.2.1 hc'.2.2.1 hc'.2.2.2
  · cases h
/-! ### powers -/
end Go.Proofs.YtpalajfcffdhoaaGreat.N3

/- Chapter 3: the reference: Right, Of, Next, Jump, Below answer as the program does. -/
namespace Go.Proofs.YtpalajfcffdhoaaGreat.N3
open Go Go.Eng
theorem rorc_ok {T : PTab} (hT : PTabOk Tryz.prog T) : OracleOk Tryz.prog (orc T plainL) := inl_ok (oracleOf_ok emptyTab_ok) ftab_ok hT plainL_ok mixed 20
theorem rright_pure (s : Int) : FnPure Tryz.prog 13 [.int .i64 s] (.bool (rightB s)) := by
  refine pure_at emptyTab_ok plainL_ok Tryz.func13 (by kernel_rfl) (?_ : evalAt emptyTab plainL 13 Tryz.f13 [.int .i64 s] = _) rfl rfl
  rw [show evalAt emptyTab plainL 13 Tryz.f13 [.int .i64 s] = bif decide (0 < s) then some (.bool (decide (s < 2147483647))) else some (.bool false) by kernel_rfl]
  unfold rightB
  by_cases h : 0 < s
  · rw [decide_eq_true h, decide_eq_true (show 1 ≤ s by omega), cond_true, Bool.true_and]
    by_cases h2 : s < 2147483647
    · rw [decide_eq_true h2, decide_eq_true (show s ≤ 2147483646 by omega)]
    · rw [decide_eq_false h2, decide_eq_false (show ¬ s ≤ 2147483646 by omega)]
  · rw [decide_eq_false h, decide_eq_false (show ¬ 1 ≤ s by omega)]; rfl
theorem tabPw_ok : PTabOk Tryz.prog (tabPw (rP 2147483648)) := addTab_ok (gTm_ok _) emptyTab_ok
theorem gR42_ok : ∀ args c v, gRight args = some (c, v) → c = true → FnPure Tryz.prog 13 args v := by
  intro args c v h _
  unfold gRight at h
  split at h
  · cases h; exact rright_pure _
  · cases h
def tabR1 (Q : RP) : PTab := addTab 13 gRight (tabPw Q)
theorem tabR1_ok : PTabOk Tryz.prog (tabR1 (rP 2147483648)) := addTab_ok gR42_ok tabPw_ok
theorem rnext_eval (Q : RP) (s : Int) : evalAt (tabR1 Q) plainL 46 Tryz.f46 [.int .i64 s] = bif !rightB s then some err3 else bif Q.okT s 48271 then some (.tuple [.int .i64 (Q.tm s 48271), .int .i64 (wr .i64 (Q.tm s 48271 - 1)), .int .i64 0]) else none := by kernel_rfl
theorem okTm_true {a b : Int} (h : 0 ≤ a ∧ a < 2147483647 ∧ 0 ≤ b ∧ b < 9223372036854775808) : okTm a b = true := decide_eq_true h
theorem right_le {s : Int} (h : rightB s = true) : 1 ≤ s ∧ s ≤ 2147483646 := by
  unfold rightB at h
  rw [Bool.and_eq_true, decide_eq_true_eq, decide_eq_true_eq] at h
  exact h
theorem tm_mulP {s : Int} (hs : rightB s = true) : tmI s 48271 = mulP s 48271 := by
  have := right_le hs
  unfold tmI mulP
  rw [wr64 (by omega) (by omega), Int.tmod_eq_emod_of_nonneg (by omega)]
theorem rnext_pure (s : Int) : FnPure Tryz.prog 46 [.int .i64 s] (.tuple [.int .i64 (nextS s), .int .i64 (nextV s), .int .i64 (errI (rightB s))]) := by
  refine pure_at tabR1_ok plainL_ok Tryz.func46 (by kernel_rfl) ?_ rfl rfl
  rw [rnext_eval, show (rP 2147483648).okT = okTm from rfl, show (rP 2147483648).tm = tmI from rfl]
  unfold nextS nextV errI
  cases hs : rightB s with
  | false => rfl
  | true =>
    have := right_le hs
    rw [okTm_true (by omega), tm_mulP hs]; rfl
end Go.Proofs.YtpalajfcffdhoaaGreat.N3

/- Chapter 3: the reference's BelowNat: contracts as names. -/
namespace Go.Proofs.YtpalajfcffdhoaaGreat.N3
open Go Go.Eng
def fitI (n : Int) : Bool := decide (-9223372036854775808 ≤ n) && decide (n < 9223372036854775808)
theorem remZ_lt {x z : Int} (_ : 0 ≤ x) (hz : 1 ≤ z) : 0 ≤ N2.remZ x z ∧ N2.remZ x z < z ∧ N2.remZ x z = x % z := by
  unfold N2.remZ
  rw [decide_eq_false (show ¬ z = 0 by omega), cond_false]
  have h1 := Int.emod_nonneg x (show z ≠ 0 by omega)
  have h2 := Int.emod_lt_of_pos x (show 0 < z by omega)
  exact ⟨h1, h2, rfl⟩
theorem nextS_right {s : Int} (hs : rightB s = true) : nextS s = mulP s 48271 := by unfold nextS; rw [hs, cond_true]
theorem nextV_right {s : Int} (hs : rightB s = true) : nextV s = mulP s 48271 - 1 := by
  have h1 := right_le (mulP_range s hs)
  unfold nextV; rw [hs, cond_true, wr64 (by omega) (by omega)]
structure RN where
  B : NB
  ofz : Int → Int
  ofe : Int → Int
  fit : Int → Bool
  ns : Int → Int
  nv : Int → Int
  ne : Int → Int
  /-- The loop's state and answer: k, state, number, limit. -/
  ls : Nat → Int → Int → Int → Int
  lv : Nat → Int → Int → Int → Int
/-- The state and what is drawn after at most so many draws. -/
def natQ (k : Nat) (z m : Int) : Nat → Int → Int → Int × Int
  | 0, s, r => (s, r)
  | u + 1, s, _ => bif decide (N2.divZ (drawN k s 0 1).2 z < m) then ((drawN k s 0 1).1, N2.remZ (drawN k s 0 1).2 z) else natQ k z m u (drawN k s 0 1).1 (N2.remZ (drawN k s 0 1).2 z)
def rN : RN := ⟨nB, N2.ofZ, N2.ofE, fitI, nextS, nextV, fun s => errI (rightB s), fun k s z m => (natQ k z m 101 s 0).1, fun k s z m => (natQ k z m 101 s 0).2⟩
def gNextR (Q : RN) : List V → Option (Bool × V)
  | [.int .i64 s] => some (true, .tuple [.int .i64 (Q.ns s), .int .i64 (Q.nv s), .int .i64 (Q.ne s)])
  | _ => none
def gOfR (Q : RN) : List V → Option (Bool × V)
  | [.int .i64 n] => some (Q.fit n, .tuple [Q.B.nW (Q.ofz n), .int .i64 (Q.ofe n)])
  | _ => none
def tabRn (Q : RN) : PTab := addTab 46 (gNextR Q) (addTab 13 gRight (addTab 42 (gTwoB Q.B fun x y => .int .i64 (Q.B.cmp x y)) (addTab 43 (gOfR Q)
  (addTab 45 (gTwoB Q.B fun x y => .tuple [Q.B.nW (Q.B.quo x y), Q.B.nW (Q.B.rem x y), .int .i64 (Q.B.divE y)]) (addTab 47 (gTwoB Q.B fun x y => .tuple [Q.B.nW (Q.B.add x y), .int .i64 (Q.B.addE x y)]) emptyTab)))))
def hTabRn (N : NB) : HTab := addH 44 (gMulB N) emptyH
def dom59 : FuncId → Bool := fun f => Nat.beq f 44
noncomputable abbrev orcRn (Q : RN) : Oracle := inl Tryz.prog ftab (tabRn Q) plainL 200 never dom59 (hOrc (hTabRn Q.B)) 20
theorem pt_add (x y : Int) : N2.ptZ (x + y) = N2.addZ x y ∧ N2.ptE (x + y) = N2.addE x y := ⟨rfl, rfl⟩
theorem tabRn_ok : PTabOk Tryz.prog (tabRn rN) := by
  refine addTab_ok ?_ (addTab_ok gR42_ok (addTab_ok (gTwoB_ok ?_) (addTab_ok ?_ (addTab_ok (gTwoB_ok ?_) (addTab_ok (gTwoB_ok ?_) emptyTab_ok)))))
  · intro args c v h _
    unfold gNextR at h
    split at h
    · cases h; exact rnext_pure _
    · cases h
  · exact fun _ _ _ _ _ _ _ _ hx hy => N2.rcmp_p hx hy
  · intro args c v h hc
    unfold gOfR at h
    split at h
    · cases h
      have hc' : fitI _ = true := hc
      simp only [fitI, Bool.and_eq_true, decide_eq_true_eq] at hc'
      exact N2.rof_p hc'
    · cases h
  · exact fun _ _ _ _ _ _ _ _ hx hy => N2.rdiv_p hx hy
  · exact fun _ _ _ _ _ _ _ _ hx hy => N2.radd_p hx hy
theorem hTabRn_ok : HTabOk Tryz.prog (hTabRn nB) := by
  refine addH_ok ?_ emptyH_ok
  intro args h c v nb hq hc
  unfold gMulB at hq
  split at hq
  · cases hq
    simp only [Bool.and_eq_true] at hc
    exact ⟨.of Tryz.func44 (by kernel_rfl), N2.rmul_fn hc.1 hc.2⟩
  · cases hq
theorem orcRn_ok : OracleOk Tryz.prog (orcRn rN) := inl_ok (hOrc_ok hTabRn_ok) ftab_ok tabRn_ok plainL_ok mixed 20
noncomputable def rnLp : Code := loopOf 11 Tryz.f15
/-- The state in round: k values a draw; the blocks: the number, the answer, the base, all, the slices of the products, the limit, a remainder, what is drawn. -/
def rnT (k : Nat) : Tm := ⟨mkS [(0, .int .i64), (3, .ptr 0 0), (5, .ptr 1 0), (7, .ptr 2 0), (9, .lit .i64 k), (11, .ptr (3 + k) 0), (14, .ptr (5 + k) 0), (15, .int .i64)] 0 126,
  [.own 34 i4, .own 34 z4, .own 34 i4, .dead] ++ deads (k - 1) ++ [.own 34 i4, .dead, .own 34 i4], []⟩
def rnX (k : Nat) : Tm := ⟨mkS [(0, .int .i64), (5, .ptr 1 0), (14, .ptr (5 + k) 0)] 0 126,
  [.own 34 i4, .own 34 z4, .own 34 i4, .dead] ++ deads (k - 1) ++ [.own 34 i4, .dead, .own 34 i4], []⟩
end Go.Proofs.YtpalajfcffdhoaaGreat.N3

/- Chapter 3: the reference's BelowNat: one round of the loop in which it draws. -/
namespace Go.Proofs.YtpalajfcffdhoaaGreat.N3
open Go Go.Eng
/-- So many values: the state after them, and they from the last one on. -/
def rnV (Q : RN) : Nat → Int → List Int → Int × List Int
  | 0, s, l => (s, l)
  | k + 1, s, l => rnV Q k (Q.ns s) (Q.nv s :: l)
def rnSum {R : Type} (Q : RN) (b0 b1 b2 b3 : Int) : List Int → Int → Int → Int → Int → (Int → Int → Int → Int → Option R) → Option R
  | [], a0, a1, a2, a3, K => K a0 a1 a2 a3
  | v :: l, a0, a1, a2, a3, K => bif Q.fit v then bif Q.B.inn a0 a1 a2 a3 && Q.B.inn b0 b1 b2 b3 then
      Q.B.ws (Q.B.mul (Q.B.z a0 a1 a2 a3) (Q.B.z b0 b1 b2 b3)) fun p0 p1 p2 p3 => Q.B.ws (Q.ofz v) fun x0 x1 x2 x3 => bif Q.B.inn p0 p1 p2 p3 && Q.B.inn x0 x1 x2 x3 then
        Q.B.ws (Q.B.add (Q.B.z p0 p1 p2 p3) (Q.B.z x0 x1 x2 x3)) fun y0 y1 y2 y3 => rnSum Q b0 b1 b2 b3 l y0 y1 y2 y3 K else none else none else none
def rnE (Q : RN) (k : Nat) (s i n0 n1 n2 n3 b0 b1 b2 b3 m0 m1 m2 m3 r0 r1 r2 r3 : Int) : RTb :=
  bif decide (i < 101) then rnSum Q b0 b1 b2 b3 (rnV Q k s []).2 0 0 0 0 fun a0 a1 a2 a3 => bif Q.B.inn a0 a1 a2 a3 && Q.B.inn n0 n1 n2 n3 then
      Q.B.ws (Q.B.quo (Q.B.z a0 a1 a2 a3) (Q.B.z n0 n1 n2 n3)) fun q0 q1 q2 q3 => bif Q.B.inn q0 q1 q2 q3 && Q.B.inn m0 m1 m2 m3 then Q.B.ws (Q.B.rem (Q.B.z a0 a1 a2 a3) (Q.B.z n0 n1 n2 n3)) fun t0 t1 t2 t3 =>
        bif decide (Q.B.cmp (Q.B.z q0 q1 q2 q3) (Q.B.z m0 m1 m2 m3) < 0) then some (.exit 2, [.i (rnV Q k s []).1, .i n0, .i n1, .i n2, .i n3, .i b0, .i b1, .i b2, .i b3, .i m0, .i m1, .i m2, .i m3, .i t0, .i t1, .i t2, .i t3], [])
        else some (.normal, [.i (rnV Q k s []).1, .i (wr .i64 (i + 1)), .i n0, .i n1, .i n2, .i n3, .i b0, .i b1, .i b2, .i b3, .i m0, .i m1, .i m2, .i m3, .i t0, .i t1, .i t2, .i t3], []) else none else none
  else some (.exit 2, [.i s, .i n0, .i n1, .i n2, .i n3, .i b0, .i b1, .i b2, .i b3, .i m0, .i m1, .i m2, .i m3, .i r0, .i r1, .i r2, .i r3], [])
theorem rn_round (Q : RN) (rd : Option Nat) (s i n0 n1 n2 n3 b0 b1 b2 b3 m0 m1 m2 m3 r0 r1 r2 r3 : Int) : ∀ k : Nat, 1 ≤ k ∧ k ≤ 4 →
    roundT Tryz.prog (orcRn Q) noLoops 100 0 rd 15 rnLp (rnT k) (rnX k) [.i s, .i i, .i n0, .i n1, .i n2, .i n3, .i b0, .i b1, .i b2, .i b3, .i m0, .i m1, .i m2, .i m3, .i r0, .i r1, .i r2, .i r3] =
      rnE Q k s i n0 n1 n2 n3 b0 b1 b2 b3 m0 m1 m2 m3 r0 r1 r2 r3
  | 0, h => by omega
  | 1, _ => by kernel_rfl
  | 2, _ => by kernel_rfl
  | 3, _ => by kernel_rfl
  | 4, _ => by kernel_rfl
  | _ + 5, h => by omega
end Go.Proofs.YtpalajfcffdhoaaGreat.N3
