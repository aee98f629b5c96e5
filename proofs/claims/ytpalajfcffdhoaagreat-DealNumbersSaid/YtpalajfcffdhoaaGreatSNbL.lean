/- Texts merged: SNbL, SNbS, SNbF. -/
import Derived.Test.YtpalajfcffdhoaaGreatSNbT
/- Chapter 3: BelowNat: the contracts of nat behind the names; the loop in which it draws. -/
namespace Go.Proofs.YtpalajfcffdhoaaGreat.N3
open Go Go.Eng
theorem gTwoB_ok {F : Int → Int → V} {f : FuncId} (H : ∀ a b c d e f' g h, N2.inN a b c d = true → N2.inN e f' g h = true → FnPure Tryz.prog f [.agg [.int .u32 a, .int .u32 b, .int .u32 c, .int .u32 d], .agg [.int .u32 e, .int .u32 f', .int .u32 g, .int .u32 h]] (F (N2.nval a b c d) (N2.nval e f' g h))) :
    ∀ args c v, gTwoB nB F args = some (c, v) → c = true → FnPure Tryz.prog f args v := by
  intro args c v h hc
  unfold gTwoB at h
  split at h
  · cases h
    simp only [Bool.and_eq_true] at hc
    exact H _ _ _ _ _ _ _ _ hc.1 hc.2
  · cases h
theorem tabB_ok : PTabOk Tryz.prog (tabB nB) := by
  refine addTab_ok (gTwoB_ok ?_) (addTab_ok (gTwoB_ok ?_) (addTab_ok (gTwoB_ok ?_) (addTab_ok (gTwoB_ok ?_) emptyTab_ok)))
  · exact fun _ _ _ _ _ _ _ _ hx hy => N2.add_p hx hy
  · exact fun _ _ _ _ _ _ _ _ hx hy => N2.sub_p hx hy
  · exact fun _ _ _ _ _ _ _ _ hx hy => N2.div_p hx hy
  · exact fun _ _ _ _ _ _ _ _ hx hy => N2.cmp_p hx hy
theorem hTabBn_ok : HTabOk Tryz.prog (hTabBn nB) := by
  refine addH_ok ?_ emptyH_ok
  intro args h c v nb hq hc
  unfold gMulB at hq
  split at hq
  · cases hq
    simp only [Bool.and_eq_true] at hc
    exact ⟨.of Tryz.func27 (by kernel_rfl), N2.mul_fn hc.1 hc.2⟩
  · cases hq
theorem orcB_ok {LL : FuncId → Loops} (hL : ∀ f, loopsOk Tryz.prog (LL f)) : OracleOk Tryz.prog (orcB nB LL) := inl_ok (hOrc_ok hTabBn_ok) ftab_ok tabB_ok hL mixed 20
/-! ### a draw -/
theorem mulP_range (s : Int) (h : rightB s = true) : rightB (mulP s 48271) = true := by
  have h0 := h
  simp only [rightB, Bool.and_eq_true, decide_eq_true_eq] at h0
  obtain ⟨n, rfl⟩ : ∃ n : Nat, s = n := ⟨s.toNat, by omega⟩
  have e := next_jump (s := n) (by omega) (by omega)
  unfold nextS at e
  rw [h, cond_true, jumpI_nat (by omega) (by omega)] at e
  rw [e]
  have h1 := J_pos (s := n) (by omega) (by omega) (1 % 2147483646 : Int).toNat
  have h2 := J_lt n (1 % 2147483646 : Int).toNat
  exact right_iff.2 ⟨by omega, by omega⟩
theorem w_small {v : Int} (h : 0 ≤ v ∧ v < 4294967296) : N2.w0 v = v ∧ N2.w1 v = 0 ∧ N2.w2 v = 0 ∧ N2.w3 v = 0 := by
  unfold N2.w0 N2.w1 N2.w2 N2.w3; omega
def inZ (z : Int) : Prop := 0 ≤ z ∧ z < 340282366920938463463374607431768211456
theorem inZ_add {x y : Int} (hx : inZ x) (hy : inZ y) : inZ (N2.addZ x y) := by
  unfold inZ N2.addZ at *
  by_cases h : x + y < 340282366920938463463374607431768211456
  · rw [decide_eq_true h, cond_true]; omega
  · rw [decide_eq_false h, cond_false]; omega
theorem inZ_mul {x y : Int} (hx : inZ x) (hy : inZ y) : inZ (N2.mulZ x y) := by
  unfold inZ N2.mulZ at *
  by_cases h : x * y < 340282366920938463463374607431768211456
  · rw [decide_eq_true h, cond_true]; exact ⟨Int.mul_nonneg hx.1 hy.1, h⟩
  · rw [decide_eq_false h, cond_false]; omega
theorem drawN_in : ∀ (k : Nat) (s a c : Int), rightB s = true → inZ a → inZ c → rightB (drawN k s a c).1 = true ∧ inZ (drawN k s a c).2
  | 0, s, a, c, hs, ha, _ => ⟨hs, ha⟩
  | k + 1, s, a, c, hs, ha, hc => by
    have h1 := mulP_range s hs
    have h2 : inZ (mulP s 48271 - 1) := by simp only [rightB, Bool.and_eq_true, decide_eq_true_eq] at h1; unfold inZ; omega
    exact drawN_in k _ _ _ h1 (inZ_add ha (inZ_mul hc h2)) (inZ_mul hc (by unfold inZ; omega))
theorem nbD_is {R : Type} {K : Int → Int → Int → Int → Int → Option R} : ∀ (k : Nat) (s a c : Int), rightB s = true → inZ a → inZ c →
    nbD nB 2147483646 0 0 0 k s (N2.w0 a) (N2.w1 a) (N2.w2 a) (N2.w3 a) (N2.w0 c) (N2.w1 c) (N2.w2 c) (N2.w3 c) K =
      K (drawN k s a c).1 (N2.w0 (drawN k s a c).2) (N2.w1 (drawN k s a c).2) (N2.w2 (drawN k s a c).2) (N2.w3 (drawN k s a c).2)
  | 0, s, a, c, hs, ha, _ => rfl
  | k + 1, s, a, c, hs, ha, hc => by
    have h1 := mulP_range s hs
    have h3 := h1
    simp only [rightB, Bool.and_eq_true, decide_eq_true_eq] at h3
    have h2 : inZ (mulP s 48271 - 1) := by unfold inZ; omega
    have e : wr .u32 (wr .i64 (mulP s 48271 - 1)) = mulP s 48271 - 1 := by rw [wr64 (by omega) (by omega), N2.wr32 (by omega) (by omega)]
    obtain ⟨e0, e1, e2, e3⟩ := w_small (v := mulP s 48271 - 1) (by omega)
    have q : N2.inN (mulP s 48271 - 1) 0 0 0 = true := by rw [N2.inN_iff]; omega
    have z : N2.nval (mulP s 48271 - 1) 0 0 0 = mulP s 48271 - 1 := by unfold N2.nval; omega
    have qb : N2.inN 2147483646 0 0 0 = true := rfl
    have zb : N2.nval 2147483646 0 0 0 = 2147483646 := rfl
    have hm := inZ_mul hc h2
    unfold nbD
    rw [e]
    dsimp only [nB]
    rw [N2.inN_w, N2.inN_w, q, qb, N2.nval_id hc, z, zb, N2.inN_w, N2.nval_id ha, N2.nval_id hm]
    exact nbD_is k _ _ _ h1 (inZ_add ha hm) (inZ_mul hc (by unfold inZ; omega))
/-! ### the loop -/
theorem nbT_ok : ∀ k : Nat, 1 ≤ k ∧ k ≤ 4 → (nbT k).ok = true
  | 0, h => by omega
  | 1, _ => by kernel_rfl
  | 2, _ => by kernel_rfl
  | 3, _ => by kernel_rfl
  | 4, _ => by kernel_rfl
  | _ + 5, h => by omega
theorem nbX_ok : ∀ k : Nat, 1 ≤ k ∧ k ≤ 4 → (nbX k).ok = true
  | 0, h => by omega
  | 1, _ => by kernel_rfl
  | 2, _ => by kernel_rfl
  | 3, _ => by kernel_rfl
  | 4, _ => by kernel_rfl
  | _ + 5, h => by omega
theorem natR_in (k : Nat) (m : Int) : ∀ (n : Nat) (s v : Int), rightB s = true → inZ v → rightB (natR k m n s v).1 = true ∧ inZ (natR k m n s v).2
  | 0, s, v, hs, hv => ⟨hs, hv⟩
  | n + 1, s, v, hs, hv => by
    unfold natR
    cases decide (v < m) with
    | true => exact ⟨hs, hv⟩
    | false =>
      have := drawN_in k s 0 1 hs (by unfold inZ; omega) (by unfold inZ; omega)
      exact natR_in k m n _ _ this.1 this.2
theorem cmpI_lt {x y : Int} : decide (N2.cmpI x y < 0) = decide (x < y) := N2.cmp_lt
theorem codesN : codesOk [] := fun _ h => by cases h
theorem nb_loop (k : Nat) (hk : 1 ≤ k ∧ k ≤ 4) (rd : Option Nat) (n0 n1 n2 n3 r0 r1 r2 r3 m0 m1 m2 m3 : Int) (hm : N2.inN m0 m1 m2 m3 = true) : ∀ x : Nat × Int × Int, (x.1 ≤ 100 ∧ rightB x.2.1 = true ∧ inZ x.2.2) →
    SimC Tryz.prog (8 + k) rd (.loop nbLp) ((nbT k).at [.i (100 - x.1), .i x.2.1, .i n0, .i n1, .i n2, .i n3, .i r0, .i r1, .i r2, .i r3, .i 2147483646, .i 0, .i 0, .i 0, .i m0, .i m1, .i m2, .i m3, .i (N2.w0 x.2.2), .i (N2.w1 x.2.2), .i (N2.w2 x.2.2), .i (N2.w3 x.2.2)]) (.exit 0)
      ((nbX k).at [.i (natR k (N2.nval m0 m1 m2 m3) x.1 x.2.1 x.2.2).1, .i n0, .i n1, .i n2, .i n3, .i r0, .i r1, .i r2, .i r3, .i 2147483646, .i 0, .i 0, .i 0, .i m0, .i m1, .i m2, .i m3, .i (N2.w0 (natR k (N2.nval m0 m1 m2 m3) x.1 x.2.1 x.2.2).2), .i (N2.w1 (natR k (N2.nval m0 m1 m2 m3) x.1 x.2.1 x.2.2).2), .i (N2.w2 (natR k (N2.nval m0 m1 m2 m3) x.1 x.2.1 x.2.2).2), .i (N2.w3 (natR k (N2.nval m0 m1 m2 m3) x.1 x.2.1 x.2.2).2)]) := by
  refine loop_of_rounds (C := orcB nB plainL) (L := noLoops) (N := 200) (me := 32) (T := nbT k) (T' := nbX k) (orcB_ok plainL_ok) mixed noLoops_ok (nbT_ok k hk) (nbX_ok k hk) (X := Nat × Int × Int)
    (fun x => [.i (100 - x.1), .i x.2.1, .i n0, .i n1, .i n2, .i n3, .i r0, .i r1, .i r2, .i r3, .i 2147483646, .i 0, .i 0, .i 0, .i m0, .i m1, .i m2, .i m3, .i (N2.w0 x.2.2), .i (N2.w1 x.2.2), .i (N2.w2 x.2.2), .i (N2.w3 x.2.2)])
    (fun x => x.1 ≤ 100 ∧ rightB x.2.1 = true ∧ inZ x.2.2) (fun x => x.1)
    (fun x => (.exit 0, [.i (natR k (N2.nval m0 m1 m2 m3) x.1 x.2.1 x.2.2).1, .i n0, .i n1, .i n2, .i n3, .i r0, .i r1, .i r2, .i r3, .i 2147483646, .i 0, .i 0, .i 0, .i m0, .i m1, .i m2, .i m3, .i (N2.w0 (natR k (N2.nval m0 m1 m2 m3) x.1 x.2.1 x.2.2).2), .i (N2.w1 (natR k (N2.nval m0 m1 m2 m3) x.1 x.2.1 x.2.2).2), .i (N2.w2 (natR k (N2.nval m0 m1 m2 m3) x.1 x.2.1 x.2.2).2), .i (N2.w3 (natR k (N2.nval m0 m1 m2 m3) x.1 x.2.1 x.2.2).2)])) ?_
  rintro ⟨n, s, v⟩ ⟨hx, hs, hv⟩
  dsimp only at hx hs hv ⊢
  have h := nb_round nB rd (100 - n) s n0 n1 n2 n3 r0 r1 r2 r3 2147483646 0 0 0 m0 m1 m2 m3 (N2.w0 v) (N2.w1 v) (N2.w2 v) (N2.w3 v) k hk
  unfold nbE at h
  cases n with
  | zero =>
    rw [show decide ((100 : Int) - ((0 : Nat) : Int) < 100) = false from rfl, cond_false] at h
    exact ⟨_, _, _, h, codesN, .inr ⟨by simp, rfl⟩⟩
  | succ n =>
    have hi : decide ((100 : Int) - ((n + 1 : Nat) : Int) < 100) = true := decide_eq_true (by omega)
    have e1 : (nB.inn (N2.w0 v) (N2.w1 v) (N2.w2 v) (N2.w3 v) && nB.inn m0 m1 m2 m3) = true := by
      rw [Bool.and_eq_true]; exact ⟨N2.inN_w v, hm⟩
    have e2 : decide (nB.cmp (nB.z (N2.w0 v) (N2.w1 v) (N2.w2 v) (N2.w3 v)) (nB.z m0 m1 m2 m3) < 0) = decide (v < N2.nval m0 m1 m2 m3) := by
      rw [show nB.cmp (nB.z (N2.w0 v) (N2.w1 v) (N2.w2 v) (N2.w3 v)) (nB.z m0 m1 m2 m3) = N2.cmpI (N2.nval (N2.w0 v) (N2.w1 v) (N2.w2 v) (N2.w3 v)) (N2.nval m0 m1 m2 m3) from rfl, N2.nval_id hv, cmpI_lt]
    rw [hi, cond_true, e1, cond_true, e2] at h
    cases hd : decide (v < N2.nval m0 m1 m2 m3) with
    | true =>
      rw [hd, cond_true] at h
      refine ⟨_, _, _, h, codesN, .inr ⟨by simp, ?_⟩⟩
      simp only [natR, hd, cond_true]
    | false =>
      have hz : inZ 0 := by unfold inZ; omega
      have h1 : inZ 1 := by unfold inZ; omega
      rw [hd, cond_false] at h
      have hD := nbD_is (K := fun s' a0 a1 a2 a3 => (some (.normal, [.i (wr .i64 ((100 : Int) - ((n + 1 : Nat) : Int) + 1)), .i s', .i n0, .i n1, .i n2, .i n3, .i r0, .i r1, .i r2, .i r3, .i 2147483646, .i 0, .i 0, .i 0, .i m0, .i m1, .i m2, .i m3, .i a0, .i a1, .i a2, .i a3], []) : RTb)) k s 0 1 hs hz h1
      rw [show N2.w0 0 = 0 from rfl, show N2.w1 0 = 0 from rfl, show N2.w2 0 = 0 from rfl, show N2.w3 0 = 0 from rfl, show N2.w0 1 = 1 from rfl, show N2.w1 1 = 0 from rfl, show N2.w2 1 = 0 from rfl, show N2.w3 1 = 0 from rfl] at hD
      rw [hD] at h
      have hw : wr .i64 ((100 : Int) - ((n + 1 : Nat) : Int) + 1) = 100 - (n : Int) := by rw [wr64 (by omega) (by omega)]; omega
      rw [hw] at h
      have hi := drawN_in k s 0 1 hs hz h1
      refine ⟨_, _, _, h, codesN, .inl ⟨rfl, (n, (drawN k s 0 1).1, (drawN k s 0 1).2), rfl, ⟨by dsimp only; omega, hi.1, hi.2⟩, by dsimp only; omega, ?_⟩⟩
      simp only [natR, hd, cond_false]
end Go.Proofs.YtpalajfcffdhoaaGreat.N3

/- Chapter 3: BelowNat: the loop's summary; what the function answers. -/
namespace Go.Proofs.YtpalajfcffdhoaaGreat.N3
open Go Go.Eng
def nbFin (N : NB) (k : Nat) : List PV → Fin
  | [.i i, .i s, .i n0, .i n1, .i n2, .i n3, .i r0, .i r1, .i r2, .i r3, .i b0, .i b1, .i b2, .i b3, .i m0, .i m1, .i m2, .i m3, .i v0, .i v1, .i v2, .i v3] =>
    .br (decide (i = 0) && (rightB s && (decide (b0 = 2147483646) && (decide (b1 = 0) && (decide (b2 = 0) && (decide (b3 = 0) && (N.inn m0 m1 m2 m3 && N.inn v0 v1 v2 v3)))))))
      (.leaf (.exit 0) ((nbX k).at [.i (N.ls k s (N.z m0 m1 m2 m3) (N.z v0 v1 v2 v3)), .i n0, .i n1, .i n2, .i n3, .i r0, .i r1, .i r2, .i r3, .i b0, .i b1, .i b2, .i b3, .i m0, .i m1, .i m2, .i m3,
        .i (N.w0 (N.lv k s (N.z m0 m1 m2 m3) (N.z v0 v1 v2 v3))), .i (N.w1 (N.lv k s (N.z m0 m1 m2 m3) (N.z v0 v1 v2 v3))), .i (N.w2 (N.lv k s (N.z m0 m1 m2 m3) (N.z v0 v1 v2 v3))), .i (N.w3 (N.lv k s (N.z m0 m1 m2 m3) (N.z v0 v1 v2 v3)))])) .no
  | _ => .no
noncomputable def nbSum (N : NB) : LoopSum := lsumE 9 (nbT 1) nbLp (nbFin N 1) (lsumE 10 (nbT 2) nbLp (nbFin N 2) (lsumE 11 (nbT 3) nbLp (nbFin N 3) (lsumE 12 (nbT 4) nbLp (nbFin N 4) noSum)))
theorem nbFin_ok {k : Nat} (hk : 1 ≤ k ∧ k ≤ 4) : ∀ rd ps e s, (nbFin nB k ps).pick = some (e, s) → SimC Tryz.prog (8 + k) rd (.loop nbLp) ((nbT k).at ps) e s := by
  intro rd ps e s h
  unfold nbFin at h
  split at h
  · rename_i i s n0 n1 n2 n3 r0 r1 r2 r3 b0 b1 b2 b3 m0 m1 m2 m3 v0 v1 v2 v3
    simp only [Fin.pick] at h
    cases hi : (decide (i = 0) && (rightB s && (decide (b0 = 2147483646) && (decide (b1 = 0) && (decide (b2 = 0) && (decide (b3 = 0) && (nB.inn m0 m1 m2 m3 && nB.inn v0 v1 v2 v3))))))) with
    | false => rw [hi] at h; cases h
    | true =>
      rw [hi, cond_true] at h
      cases h
      simp only [Bool.and_eq_true, decide_eq_true_eq] at hi
      obtain ⟨rfl, hs, rfl, rfl, rfl, rfl, hm, hv⟩ := hi
      have hv' : N2.inN v0 v1 v2 v3 = true := hv
      have hr := N2.nval_range hv'
      have hw := N2.w_nval hv'
      have H := nb_loop k hk rd n0 n1 n2 n3 r0 r1 r2 r3 m0 m1 m2 m3 hm (100, s, N2.nval v0 v1 v2 v3) ⟨Nat.le_refl _, hs, hr⟩
      dsimp only at H
      rw [hw.1, hw.2.1, hw.2.2.1, hw.2.2.2] at H
      exact H
  · cases h
theorem nbSum_ok : LoopOk Tryz.prog (nbSum nB) :=
  lsumE_ok (nbT_ok 1 (by omega)) (nbFin_ok (k := 1) (by omega)) (lsumE_ok (nbT_ok 2 (by omega)) (nbFin_ok (k := 2) (by omega)) (lsumE_ok (nbT_ok 3 (by omega)) (nbFin_ok (k := 3) (by omega)) (lsumE_ok (nbT_ok 4 (by omega)) (nbFin_ok (k := 4) (by omega)) noSum_ok)))
noncomputable def nbLs (N : NB) : FuncId → Loops := fun f => match f with
  | 32 => sums (fun n => match n with | 3 => some (nbSum N) | _ => none)
  | _ => noLoops
theorem nbLs_ok : ∀ f, loopsOk Tryz.prog (nbLs nB f) := fun f => by
  unfold nbLs
  split
  · intro n g hg
    simp only [sums] at hg
    split at hg
    · cases hg; exact nbSum_ok
    · cases hg
  · exact noLoops_ok
def tabB2 (N : NB) : PTab := addTab 9 gRight (tabB N)
theorem tabB2_ok : PTabOk Tryz.prog (tabB2 nB) := addTab_ok gRight_ok tabB_ok
noncomputable abbrev orcB2 (N : NB) : Oracle := inl Tryz.prog ftab (tabB2 N) (nbLs N) 200 never dom23 (hOrc (hTabBn N)) 20
theorem orcB2_ok : OracleOk Tryz.prog (orcB2 nB) := inl_ok (hOrc_ok hTabBn_ok) ftab_ok tabB2_ok nbLs_ok mixed 20
end Go.Proofs.YtpalajfcffdhoaaGreat.N3

/- Chapter 3: BelowNat: what the function answers, as a formula. -/
namespace Go.Proofs.YtpalajfcffdhoaaGreat.N3
open Go Go.Eng
def NB.ws {R : Type} (N : NB) (z : Int) (K : Int → Int → Int → Int → R) : R := K (N.w0 z) (N.w1 z) (N.w2 z) (N.w3 z)
/-- From the product of the base's powers on. -/
noncomputable def nbRest (N : NB) (k : Nat) (s a0 a1 a2 a3 n0 n1 n2 n3 : Int) : Option V :=
  bif N.inn a0 a1 a2 a3 && N.inn n0 n1 n2 n3 then
    N.ws (N.rem (N.z a0 a1 a2 a3) (N.z n0 n1 n2 n3)) fun o0 o1 o2 o3 => bif N.inn a0 a1 a2 a3 && N.inn o0 o1 o2 o3 then
      N.ws (N.sub (N.z a0 a1 a2 a3) (N.z o0 o1 o2 o3)) fun m0 m1 m2 m3 =>
        nbD N 2147483646 0 0 0 k s 0 0 0 0 1 0 0 0 (fun s' v0 v1 v2 v3 =>
          bif codesB [(nbLp, nbLp)] then bif true && (rightB s' && (true && (true && (true && (true && (N.inn m0 m1 m2 m3 && N.inn v0 v1 v2 v3)))))) then
            N.ws (N.lv k s' (N.z m0 m1 m2 m3) (N.z v0 v1 v2 v3)) fun x0 x1 x2 x3 => bif N.inn x0 x1 x2 x3 && N.inn n0 n1 n2 n3 then
              some (.tuple [.int .i64 (N.ls k s' (N.z m0 m1 m2 m3) (N.z v0 v1 v2 v3)), N.nW (N.rem (N.z x0 x1 x2 x3) (N.z n0 n1 n2 n3)), .int .i64 0]) else none
            else none else none) else none else none
noncomputable def nbGo (N : NB) : Nat → Nat → Int → Int → Int → Int → Int → Int → Int → Int → Int → Option V
  | 0, _, _, _, _, _, _, _, _, _, _ => none
  | u + 1, k, s, a0, a1, a2, a3, n0, n1, n2, n3 => bif N.inn a0 a1 a2 a3 && N.inn n0 n1 n2 n3 then bif decide (N.cmp (N.z a0 a1 a2 a3) (N.z n0 n1 n2 n3) < 0) then
      bif N.inn a0 a1 a2 a3 && N.inn 2147483646 0 0 0 then N.ws (N.mul (N.z a0 a1 a2 a3) (N.z 2147483646 0 0 0)) fun b0 b1 b2 b3 => nbGo N u (k + 1) s b0 b1 b2 b3 n0 n1 n2 n3 else none
    else nbRest N k s a0 a1 a2 a3 n0 n1 n2 n3 else none
noncomputable def dec2 : Loops := decs fun r => match r with | 2 => some false | _ => none
theorem nb_eval (N : NB) (s n0 n1 n2 n3 : Int) : evalFn Tryz.prog (orcB2 N) dec2 4 11 Tryz.f11 [.int .i64 s, .agg [.int .u32 n0, .int .u32 n1, .int .u32 n2, .int .u32 n3]] [] (fun v _ => some v) =
    bif !rightB s then none else bif zeroB n0 n1 n2 n3 then none else bif N.inn n0 n1 n2 n3 && N.inn 0 0 0 16777216 then bif decide (0 < N.cmp (N.z n0 n1 n2 n3) (N.z 0 0 0 16777216)) then none else
      nbGo N 4 1 s 2147483646 0 0 0 n0 n1 n2 n3 else none := by kernel_rfl
end Go.Proofs.YtpalajfcffdhoaaGreat.N3
