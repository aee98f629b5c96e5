/- Chapter 3: BelowNat: the contracts of nat behind the names; the loop in which it draws. -/
import Derived.Test.YtnbfnoomhlamnaaGreatNaRMul
import Derived.Test.YtnbfnoomhlamnaaGreatPow
namespace Go.Proofs.YtnbfnoomhlamnaaGreat
open Go Go.Eng
theorem gTwoB_ok {F : Int → Int → V} {f : FuncId} (H : ∀ a b c d e f' g h, N2.inN a b c d = true → N2.inN e f' g h = true → FnPure Tryz.prog f [.agg [.int .u32 a, .int .u32 b, .int .u32 c, .int .u32 d], .agg [.int .u32 e, .int .u32 f', .int .u32 g, .int .u32 h]] (F (N2.nval a b c d) (N2.nval e f' g h))) :
    ∀ args c v, gTwoB nB F args = some (c, v) → c = true → FnPure Tryz.prog f args v := by
  intro args c v h hc
  unfold gTwoB at h
  split at h
  · cases h
    simp only [Bool.and_eq_true] at hc
    exact H _ _ _ _ _ _ _ _ hc.1 hc.2
  · cases h
theorem tabB_ok : PTabOk Tryz.prog (tabB nB) := by
  refine addTab_ok (gTwoB_ok ?_) (addTab_ok (gTwoB_ok ?_) (addTab_ok (gTwoB_ok ?_) (addTab_ok (gTwoB_ok ?_) emptyTab_ok)))
  · exact fun _ _ _ _ _ _ _ _ hx hy => N2.add_p hx hy
  · exact fun _ _ _ _ _ _ _ _ hx hy => N2.sub_p hx hy
  · exact fun _ _ _ _ _ _ _ _ hx hy => N2.div_p hx hy
  · exact fun _ _ _ _ _ _ _ _ hx hy => N2.cmp_p hx hy
theorem hTabBn_ok : HTabOk Tryz.prog (hTabBn nB) := by
  refine addH_ok ?_ emptyH_ok
  intro args h c v nb hq hc
  unfold gMulB at hq
  split at hq
  · cases hq
    simp only [Bool.and_eq_true] at hc
    exact ⟨.of Tryz.func4 (by kernel_rfl), N2.mul_fn hc.1 hc.2⟩
  · cases hq
theorem orcB_ok {LL : FuncId → Loops} (hL : ∀ f, loopsOk Tryz.prog (LL f)) : OracleOk Tryz.prog (orcB nB LL) := inl_ok (hOrc_ok hTabBn_ok) ftab_ok tabB_ok hL mixed 20
/-! ### a draw -/
theorem mulP_range (s : Int) (h : rightB s = true) : rightB (mulP s 48271) = true := by
  have h0 := h
  simp only [rightB, Bool.and_eq_true, decide_eq_true_eq] at h0
  obtain ⟨n, rfl⟩ : ∃ n : Nat, s = n := ⟨s.toNat, by omega⟩
  have e := next_jump (s := n) (by omega) (by omega)
  unfold nextS at e
  rw [h, cond_true, jumpI_nat (by omega) (by omega)] at e
  rw [e]
  have h1 := J_pos (s := n) (by omega) (by omega) (1 % 2147483646 : Int).toNat
  have h2 := J_lt n (1 % 2147483646 : Int).toNat
  exact right_iff.2 ⟨by omega, by omega⟩
theorem w_small {v : Int} (h : 0 ≤ v ∧ v < 4294967296) : N2.w0 v = v ∧ N2.w1 v = 0 ∧ N2.w2 v = 0 ∧ N2.w3 v = 0 := by
  unfold N2.w0 N2.w1 N2.w2 N2.w3; omega
def inZ (z : Int) : Prop := 0 ≤ z ∧ z < 340282366920938463463374607431768211456
theorem inZ_add {x y : Int} (hx : inZ x) (hy : inZ y) : inZ (N2.addZ x y) := by
  unfold inZ N2.addZ at *
  by_cases h : x + y < 340282366920938463463374607431768211456
  · rw [decide_eq_true h, cond_true]; omega
  · rw [decide_eq_false h, cond_false]; omega
theorem inZ_mul {x y : Int} (hx : inZ x) (hy : inZ y) : inZ (N2.mulZ x y) := by
  unfold inZ N2.mulZ at *
  by_cases h : x * y < 340282366920938463463374607431768211456
  · rw [decide_eq_true h, cond_true]; exact ⟨Int.mul_nonneg hx.1 hy.1, h⟩
  · rw [decide_eq_false h, cond_false]; omega
theorem drawN_in : ∀ (k : Nat) (s a c : Int), rightB s = true → inZ a → inZ c → rightB (drawN k s a c).1 = true ∧ inZ (drawN k s a c).2
  | 0, s, a, c, hs, ha, _ => ⟨hs, ha⟩
  | k + 1, s, a, c, hs, ha, hc => by
    have h1 := mulP_range s hs
    have h2 : inZ (mulP s 48271 - 1) := by simp only [rightB, Bool.and_eq_true, decide_eq_true_eq] at h1; unfold inZ; omega
    exact drawN_in k _ _ _ h1 (inZ_add ha (inZ_mul hc h2)) (inZ_mul hc (by unfold inZ; omega))
theorem nbD_is {R : Type} {K : Int → Int → Int → Int → Int → Option R} : ∀ (k : Nat) (s a c : Int), rightB s = true → inZ a → inZ c →
    nbD nB 2147483646 0 0 0 k s (N2.w0 a) (N2.w1 a) (N2.w2 a) (N2.w3 a) (N2.w0 c) (N2.w1 c) (N2.w2 c) (N2.w3 c) K =
      K (drawN k s a c).1 (N2.w0 (drawN k s a c).2) (N2.w1 (drawN k s a c).2) (N2.w2 (drawN k s a c).2) (N2.w3 (drawN k s a c).2)
  | 0, s, a, c, hs, ha, _ => rfl
  | k + 1, s, a, c, hs, ha, hc => by
    have h1 := mulP_range s hs
    have h3 := h1
    simp only [rightB, Bool.and_eq_true, decide_eq_true_eq] at h3
    have h2 : inZ (mulP s 48271 - 1) := by unfold inZ; omega
    have e : wr .u32 (wr .i64 (mulP s 48271 - 1)) = mulP s 48271 - 1 := by rw [wr64 (by omega) (by omega), N2.wr32 (by omega) (by omega)]
    obtain ⟨e0, e1, e2, e3⟩ := w_small (v := mulP s 48271 - 1) (by omega)
    have q : N2.inN (mulP s 48271 - 1) 0 0 0 = true := by rw [N2.inN_iff]; omega
    have z : N2.nval (mulP s 48271 - 1) 0 0 0 = mulP s 48271 - 1 := by unfold N2.nval; omega
    have qb : N2.inN 2147483646 0 0 0 = true := rfl
    have zb : N2.nval 2147483646 0 0 0 = 2147483646 := rfl
    have hm := inZ_mul hc h2
    unfold nbD
    rw [e]
    dsimp only [nB]
    rw [N2.inN_w, N2.inN_w, q, qb, N2.nval_id hc, z, zb, N2.inN_w, N2.nval_id ha, N2.nval_id hm]
    exact nbD_is k _ _ _ h1 (inZ_add ha hm) (inZ_mul hc (by unfold inZ; omega))
/-! ### the loop -/
theorem nbT_ok : ∀ k : Nat, 1 ≤ k ∧ k ≤ 4 → (nbT k).ok = true
  | 0, h => by omega
  | 1, _ => by kernel_rfl
  | 2, _ => by kernel_rfl
  | 3, _ => by kernel_rfl
  | 4, _ => by kernel_rfl
  | _ + 5, h => by omega
theorem nbX_ok : ∀ k : Nat, 1 ≤ k ∧ k ≤ 4 → (nbX k).ok = true
  | 0, h => by omega
  | 1, _ => by kernel_rfl
  | 2, _ => by kernel_rfl
  | 3, _ => by kernel_rfl
  | 4, _ => by kernel_rfl
  | _ + 5, h => by omega
theorem natR_in (k : Nat) (m : Int) : ∀ (n : Nat) (s v : Int), rightB s = true → inZ v → rightB (natR k m n s v).1 = true ∧ inZ (natR k m n s v).2
  | 0, s, v, hs, hv => ⟨hs, hv⟩
  | n + 1, s, v, hs, hv => by
    unfold natR
    cases decide (v < m) with
    | true => exact ⟨hs, hv⟩
    | false =>
      have := drawN_in k s 0 1 hs (by unfold inZ; omega) (by unfold inZ; omega)
      exact natR_in k m n _ _ this.1 this.2
theorem cmpI_lt {x y : Int} : decide (N2.cmpI x y < 0) = decide (x < y) := N2.cmp_lt
theorem codesN : codesOk [] := fun _ h => by cases h
theorem nb_loop (k : Nat) (hk : 1 ≤ k ∧ k ≤ 4) (rd : Option Nat) (n0 n1 n2 n3 r0 r1 r2 r3 m0 m1 m2 m3 : Int) (hm : N2.inN m0 m1 m2 m3 = true) : ∀ x : Nat × Int × Int, (x.1 ≤ 100 ∧ rightB x.2.1 = true ∧ inZ x.2.2) →
    SimC Tryz.prog (8 + k) rd (.loop nbLp) ((nbT k).at [.i (100 - x.1), .i x.2.1, .i n0, .i n1, .i n2, .i n3, .i r0, .i r1, .i r2, .i r3, .i 2147483646, .i 0, .i 0, .i 0, .i m0, .i m1, .i m2, .i m3, .i (N2.w0 x.2.2), .i (N2.w1 x.2.2), .i (N2.w2 x.2.2), .i (N2.w3 x.2.2)]) (.exit 0)
      ((nbX k).at [.i (natR k (N2.nval m0 m1 m2 m3) x.1 x.2.1 x.2.2).1, .i n0, .i n1, .i n2, .i n3, .i r0, .i r1, .i r2, .i r3, .i 2147483646, .i 0, .i 0, .i 0, .i m0, .i m1, .i m2, .i m3, .i (N2.w0 (natR k (N2.nval m0 m1 m2 m3) x.1 x.2.1 x.2.2).2), .i (N2.w1 (natR k (N2.nval m0 m1 m2 m3) x.1 x.2.1 x.2.2).2), .i (N2.w2 (natR k (N2.nval m0 m1 m2 m3) x.1 x.2.1 x.2.2).2), .i (N2.w3 (natR k (N2.nval m0 m1 m2 m3) x.1 x.2.1 x.2.2).2)]) := by
  refine loop_of_rounds (C := orcB nB plainL) (L := noLoops) (N := 200) (me := 45) (T := nbT k) (T' := nbX k) (orcB_ok plainL_ok) mixed noLoops_ok (nbT_ok k hk) (nbX_ok k hk) (X := Nat × Int × Int)
    (fun x => [.i (100 - x.1), .i x.2.1, .i n0, .i n1, .i n2, .i n3, .i r0, .i r1, .i r2, .i r3, .i 2147483646, .i 0, .i 0, .i 0, .i m0, .i m1, .i m2, .i m3, .i (N2.w0 x.2.2), .i (N2.w1 x.2.2), .i (N2.w2 x.2.2), .i (N2.w3 x.2.2)])
    (fun x => x.1 ≤ 100 ∧ rightB x.2.1 = true ∧ inZ x.2.2) (fun x => x.1)
    (fun x => (.exit 0, [.i (natR k (N2.nval m0 m1 m2 m3) x.1 x.2.1 x.2.2).1, .i n0, .i n1, .i n2, .i n3, .i r0, .i r1, .i r2, .i r3, .i 2147483646, .i 0, .i 0, .i 0, .i m0, .i m1, .i m2, .i m3, .i (N2.w0 (natR k (N2.nval m0 m1 m2 m3) x.1 x.2.1 x.2.2).2), .i (N2.w1 (natR k (N2.nval m0 m1 m2 m3) x.1 x.2.1 x.2.2).2), .i (N2.w2 (natR k (N2.nval m0 m1 m2 m3) x.1 x.2.1 x.2.2).2), .i (N2.w3 (natR k (N2.nval m0 m1 m2 m3) x.1 x.2.1 x.2.2).2)])) ?_
  rintro ⟨n, s, v⟩ ⟨hx, hs, hv⟩
  dsimp only at hx hs hv ⊢
  have h := nb_round nB rd (100 - n) s n0 n1 n2 n3 r0 r1 r2 r3 2147483646 0 0 0 m0 m1 m2 m3 (N2.w0 v) (N2.w1 v) (N2.w2 v) (N2.w3 v) k hk
  unfold nbE at h
  cases n with
  | zero =>
    rw [show decide ((100 : Int) - ((0 : Nat) : Int) < 100) = false from rfl, cond_false] at h
    exact ⟨_, _, _, h, codesN, .inr ⟨by simp, rfl⟩⟩
  | succ n =>
    have hi : decide ((100 : Int) - ((n + 1 : Nat) : Int) < 100) = true := decide_eq_true (by omega)
    have e1 : (nB.inn (N2.w0 v) (N2.w1 v) (N2.w2 v) (N2.w3 v) && nB.inn m0 m1 m2 m3) = true := by
      rw [Bool.and_eq_true]; exact ⟨N2.inN_w v, hm⟩
    have e2 : decide (nB.cmp (nB.z (N2.w0 v) (N2.w1 v) (N2.w2 v) (N2.w3 v)) (nB.z m0 m1 m2 m3) < 0) = decide (v < N2.nval m0 m1 m2 m3) := by
      rw [show nB.cmp (nB.z (N2.w0 v) (N2.w1 v) (N2.w2 v) (N2.w3 v)) (nB.z m0 m1 m2 m3) = N2.cmpI (N2.nval (N2.w0 v) (N2.w1 v) (N2.w2 v) (N2.w3 v)) (N2.nval m0 m1 m2 m3) from rfl, N2.nval_id hv, cmpI_lt]
    rw [hi, cond_true, e1, cond_true, e2] at h
    cases hd : decide (v < N2.nval m0 m1 m2 m3) with
    | true =>
      rw [hd, cond_true] at h
      refine ⟨_, _, _, h, codesN, .inr ⟨by simp, ?_⟩⟩
      simp only [natR, hd, cond_true]
    | false =>
      have hz : inZ 0 := by unfold inZ; omega
      have h1 : inZ 1 := by unfold inZ; omega
      rw [hd, cond_false] at h
      have hD := nbD_is (K := fun s' a0 a1 a2 a3 => (some (.normal, [.i (wr .i64 ((100 : Int) - ((n + 1 : Nat) : Int) + 1)), .i s', .i n0, .i n1, .i n2, .i n3, .i r0, .i r1, .i r2, .i r3, .i 2147483646, .i 0, .i 0, .i 0, .i m0, .i m1, .i m2, .i m3, .i a0, .i a1, .i a2, .i a3], []) : RTb)) k s 0 1 hs hz h1
      rw [show N2.w0 0 = 0 from rfl, show N2.w1 0 = 0 from rfl, show N2.w2 0 = 0 from rfl, show N2.w3 0 = 0 from rfl, show N2.w0 1 = 1 from rfl, show N2.w1 1 = 0 from rfl, show N2.w2 1 = 0 from rfl, show N2.w3 1 = 0 from rfl] at hD
      rw [hD] at h
      have hw : wr .i64 ((100 : Int) - ((n + 1 : Nat) : Int) + 1) = 100 - (n : Int) := by rw [wr64 (by omega) (by omega)]; omega
      rw [hw] at h
      have hi := drawN_in k s 0 1 hs hz h1
      refine ⟨_, _, _, h, codesN, .inl ⟨rfl, (n, (drawN k s 0 1).1, (drawN k s 0 1).2), rfl, ⟨by dsimp only; omega, hi.1, hi.2⟩, by dsimp only; omega, ?_⟩⟩
      simp only [natR, hd, cond_false]
end Go.Proofs.YtnbfnoomhlamnaaGreat
