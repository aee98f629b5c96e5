/- Texts merged: RnS, RnF. -/
import Derived.Test.YtnbfnoomhlamnaaGreatRnL
/- Chapter 3: the reference's BelowNat: the loop's summary. -/
namespace Go.Proofs.YtnbfnoomhlamnaaGreat
open Go Go.Eng
theorem rnT_ok : ∀ k : Nat, 1 ≤ k ∧ k ≤ 4 → (rnT k).ok = true
  | 0, h => by omega
  | 1, _ => by kernel_rfl
  | 2, _ => by kernel_rfl
  | 3, _ => by kernel_rfl
  | 4, _ => by kernel_rfl
  | _ + 5, h => by omega
theorem rnX_ok : ∀ k : Nat, 1 ≤ k ∧ k ≤ 4 → (rnX k).ok = true
  | 0, h => by omega
  | 1, _ => by kernel_rfl
  | 2, _ => by kernel_rfl
  | 3, _ => by kernel_rfl
  | 4, _ => by kernel_rfl
  | _ + 5, h => by omega
def rnEnc (s n0 n1 n2 n3 m0 m1 m2 m3 r : Int) (l : List PV) : List PV :=
  .i s :: (l ++ [.i n0, .i n1, .i n2, .i n3, .i 2147483646, .i 0, .i 0, .i 0, .i m0, .i m1, .i m2, .i m3, .i (N2.w0 r), .i (N2.w1 r), .i (N2.w2 r), .i (N2.w3 r)])
theorem rn_loop (k : Nat) (hk : 1 ≤ k ∧ k ≤ 4) (rd : Option Nat) (n0 n1 n2 n3 m0 m1 m2 m3 : Int) (hn : N2.inN n0 n1 n2 n3 = true) (hm : N2.inN m0 m1 m2 m3 = true) : ∀ x : Nat × Int × Int, (x.1 ≤ 101 ∧ rightB x.2.1 = true ∧ inZ x.2.2) →
    SimC Tryz.prog 0 rd (.loop rnLp) ((rnT k).at (rnEnc x.2.1 n0 n1 n2 n3 m0 m1 m2 m3 x.2.2 [.i (101 - x.1)])) (.exit 2)
      ((rnX k).at (rnEnc (natQ k (N2.nval n0 n1 n2 n3) (N2.nval m0 m1 m2 m3) x.1 x.2.1 x.2.2).1 n0 n1 n2 n3 m0 m1 m2 m3 (natQ k (N2.nval n0 n1 n2 n3) (N2.nval m0 m1 m2 m3) x.1 x.2.1 x.2.2).2 [])) := by
  refine loop_of_rounds (C := orcRn rN) (L := noLoops) (N := 100) (me := 24) (T := rnT k) (T' := rnX k) orcRn_ok mixed noLoops_ok (rnT_ok k hk) (rnX_ok k hk) (X := Nat × Int × Int)
    (fun x => rnEnc x.2.1 n0 n1 n2 n3 m0 m1 m2 m3 x.2.2 [.i (101 - x.1)]) (fun x => x.1 ≤ 101 ∧ rightB x.2.1 = true ∧ inZ x.2.2) (fun x => x.1)
    (fun x => (.exit 2, rnEnc (natQ k (N2.nval n0 n1 n2 n3) (N2.nval m0 m1 m2 m3) x.1 x.2.1 x.2.2).1 n0 n1 n2 n3 m0 m1 m2 m3 (natQ k (N2.nval n0 n1 n2 n3) (N2.nval m0 m1 m2 m3) x.1 x.2.1 x.2.2).2 [])) ?_
  rintro ⟨u, s, r⟩ ⟨hx, hs, hr⟩
  dsimp only at hx hs hr ⊢
  have h := rn_round rN rd s (101 - u) n0 n1 n2 n3 2147483646 0 0 0 m0 m1 m2 m3 (N2.w0 r) (N2.w1 r) (N2.w2 r) (N2.w3 r) k hk
  unfold rnE at h
  cases u with
  | zero =>
    rw [show decide ((101 : Int) - ((0 : Nat) : Int) < 101) = false from rfl, cond_false] at h
    exact ⟨_, _, _, h, codesN, .inr ⟨by simp, rfl⟩⟩
  | succ u =>
    have hz : inZ 0 := by unfold inZ; omega
    have h1 : inZ 1 := by unfold inZ; omega
    have hzn : inZ (N2.nval n0 n1 n2 n3) := N2.nval_range hn
    have hl := vlN_in k s [] hs (by simp)
    have hd := drawN_in k s 0 1 hs hz h1
    have hS := fun (R : Type) (K : Int → Int → Int → Int → Option R) => rnSum_is (K := K) (vlN k s []) 0 hl hz
    rw [show N2.w0 0 = 0 from rfl, show N2.w1 0 = 0 from rfl, show N2.w2 0 = 0 from rfl, show N2.w3 0 = 0 from rfl, horn_draw hs k hk] at hS
    have hw : wr .i64 ((101 : Int) - ((u + 1 : Nat) : Int) + 1) = 101 - (u : Int) := by rw [wr64 (by omega) (by omega)]; omega
    have hv1 : nB.inn (N2.w0 (drawN k s 0 1).2) (N2.w1 (drawN k s 0 1).2) (N2.w2 (drawN k s 0 1).2) (N2.w3 (drawN k s 0 1).2) = true := N2.inN_w _
    have hv2 : nB.z (N2.w0 (drawN k s 0 1).2) (N2.w1 (drawN k s 0 1).2) (N2.w2 (drawN k s 0 1).2) (N2.w3 (drawN k s 0 1).2) = (drawN k s 0 1).2 := N2.nval_id hd.2
    have hn' : nB.inn n0 n1 n2 n3 = true := hn
    have hm' : nB.inn m0 m1 m2 m3 = true := hm
    rw [decide_eq_true (show (101 : Int) - ((u + 1 : Nat) : Int) < 101 by omega), cond_true, rnV_is k s [] hs, hS] at h
    unfold NB.ws at h
    dsimp only at h
    rw [show rN.B = nB from rfl, hv1, hn', hv2, show nB.quo (drawN k s 0 1).2 (nB.z n0 n1 n2 n3) = N2.divZ (drawN k s 0 1).2 (N2.nval n0 n1 n2 n3) from rfl, show nB.rem (drawN k s 0 1).2 (nB.z n0 n1 n2 n3) = N2.remZ (drawN k s 0 1).2 (N2.nval n0 n1 n2 n3) from rfl,
      inZ_w, hm', z_w (inZ_div hd.2 hzn), hw, show decide (nB.cmp (N2.divZ (drawN k s 0 1).2 (N2.nval n0 n1 n2 n3)) (nB.z m0 m1 m2 m3) < 0) = decide (N2.divZ (drawN k s 0 1).2 (N2.nval n0 n1 n2 n3) < N2.nval m0 m1 m2 m3) from cmpI_lt, Bool.and_self, cond_true, cond_true] at h
    have hst := drawN_st k s 0 1
    cases hd2 : decide (N2.divZ (drawN k s 0 1).2 (N2.nval n0 n1 n2 n3) < N2.nval m0 m1 m2 m3) with
    | true =>
      rw [hd2, cond_true] at h
      refine ⟨_, _, _, h, codesN, .inr ⟨by simp, ?_⟩⟩
      simp only [natQ, hd2, cond_true, hst]
      rfl
    | false =>
      rw [hd2, cond_false] at h
      refine ⟨_, _, _, h, codesN, .inl ⟨rfl, (u, (drawN k s 0 1).1, N2.remZ (drawN k s 0 1).2 (N2.nval n0 n1 n2 n3)), ?_, ⟨by dsimp only; omega, hd.1, inZ_rem hd.2 hzn⟩, by dsimp only; omega, ?_⟩⟩
      · rw [hst]; rfl
      · simp only [natQ, hd2, cond_false]
end Go.Proofs.YtnbfnoomhlamnaaGreat

/- Chapter 3: the reference's BelowNat: its formula. -/
namespace Go.Proofs.YtnbfnoomhlamnaaGreat
open Go Go.Eng
def rnFin (Q : RN) (k : Nat) : List PV → Fin
  | [.i s, .i i, .i n0, .i n1, .i n2, .i n3, .i b0, .i b1, .i b2, .i b3, .i m0, .i m1, .i m2, .i m3, .i r0, .i r1, .i r2, .i r3] =>
    .br (decide (i = 0) && (rightB s && (decide (b0 = 2147483646) && (decide (b1 = 0) && (decide (b2 = 0) && (decide (b3 = 0) && (Q.B.inn n0 n1 n2 n3 && (Q.B.inn m0 m1 m2 m3 && Q.B.inn r0 r1 r2 r3))))))))
      (.leaf (.exit 2) ((rnX k).at [.i (Q.ls k s (Q.B.z n0 n1 n2 n3) (Q.B.z m0 m1 m2 m3)), .i n0, .i n1, .i n2, .i n3, .i b0, .i b1, .i b2, .i b3, .i m0, .i m1, .i m2, .i m3,
        .i (Q.B.w0 (Q.lv k s (Q.B.z n0 n1 n2 n3) (Q.B.z m0 m1 m2 m3))), .i (Q.B.w1 (Q.lv k s (Q.B.z n0 n1 n2 n3) (Q.B.z m0 m1 m2 m3))), .i (Q.B.w2 (Q.lv k s (Q.B.z n0 n1 n2 n3) (Q.B.z m0 m1 m2 m3))), .i (Q.B.w3 (Q.lv k s (Q.B.z n0 n1 n2 n3) (Q.B.z m0 m1 m2 m3)))])) .no
  | _ => .no
noncomputable def rnSm (Q : RN) : LoopSum := lsumE 0 (rnT 1) rnLp (rnFin Q 1) (lsumE 0 (rnT 2) rnLp (rnFin Q 2) (lsumE 0 (rnT 3) rnLp (rnFin Q 3) (lsumE 0 (rnT 4) rnLp (rnFin Q 4) noSum)))
theorem natQ_any (k : Nat) (z m s r : Int) : natQ k z m 101 s r = natQ k z m 101 s 0 := rfl
theorem rnFin_ok {k : Nat} (hk : 1 ≤ k ∧ k ≤ 4) : ∀ rd ps e s, (rnFin rN k ps).pick = some (e, s) → SimC Tryz.prog 0 rd (.loop rnLp) ((rnT k).at ps) e s := by
  intro rd ps e s h
  unfold rnFin at h
  split at h
  · rename_i s i n0 n1 n2 n3 b0 b1 b2 b3 m0 m1 m2 m3 r0 r1 r2 r3
    simp only [Fin.pick] at h
    cases hi : (decide (i = 0) && (rightB s && (decide (b0 = 2147483646) && (decide (b1 = 0) && (decide (b2 = 0) && (decide (b3 = 0) && (rN.B.inn n0 n1 n2 n3 && (rN.B.inn m0 m1 m2 m3 && rN.B.inn r0 r1 r2 r3)))))))) with
    | false => rw [hi] at h; cases h
    | true =>
      rw [hi, cond_true] at h
      cases h
      simp only [Bool.and_eq_true, decide_eq_true_eq] at hi
      obtain ⟨rfl, hs, rfl, rfl, rfl, rfl, hn, hm, hr⟩ := hi
      have hr' : N2.inN r0 r1 r2 r3 = true := hr
      have hw := N2.w_nval hr'
      have H := rn_loop k hk rd n0 n1 n2 n3 m0 m1 m2 m3 hn hm (101, s, N2.nval r0 r1 r2 r3) ⟨Nat.le_refl _, hs, N2.nval_range hr'⟩
      dsimp only at H
      rw [natQ_any] at H
      unfold rnEnc at H
      rw [hw.1, hw.2.1, hw.2.2.1, hw.2.2.2] at H
      exact H
  · cases h
theorem rnSm_ok : LoopOk Tryz.prog (rnSm rN) :=
  lsumE_ok (rnT_ok 1 (by omega)) (rnFin_ok (k := 1) (by omega)) (lsumE_ok (rnT_ok 2 (by omega)) (rnFin_ok (k := 2) (by omega)) (lsumE_ok (rnT_ok 3 (by omega)) (rnFin_ok (k := 3) (by omega)) (lsumE_ok (rnT_ok 4 (by omega)) (rnFin_ok (k := 4) (by omega)) noSum_ok)))
noncomputable def rnLs (Q : RN) (r2 : Bool) : Loops := ⟨fun n => match n with | 11 => some (rnSm Q) | _ => none, fun r => match r with | 2 => some r2 | _ => none⟩
theorem rnLs_ok (r2 : Bool) : loopsOk Tryz.prog (rnLs rN r2) := by
  intro n g hg
  simp only [rnLs] at hg
  split at hg
  · cases hg; exact rnSm_ok
  · cases hg
noncomputable def rnRest (Q : RN) (k : Nat) (s b0 b1 b2 b3 a0 a1 a2 a3 n0 n1 n2 n3 : Int) : Option V :=
  bif Q.B.inn a0 a1 a2 a3 && Q.B.inn n0 n1 n2 n3 then Q.B.ws (Q.B.quo (Q.B.z a0 a1 a2 a3) (Q.B.z n0 n1 n2 n3)) fun m0 m1 m2 m3 =>
    bif codesB [(rnLp, rnLp)] then bif true && (rightB s && (decide (b0 = 2147483646) && (decide (b1 = 0) && (decide (b2 = 0) && (decide (b3 = 0) && (Q.B.inn n0 n1 n2 n3 && (Q.B.inn m0 m1 m2 m3 && Q.B.inn 0 0 0 0))))))) then
      some (.tuple [.int .i64 (Q.ls k s (Q.B.z n0 n1 n2 n3) (Q.B.z m0 m1 m2 m3)), Q.B.nW (Q.lv k s (Q.B.z n0 n1 n2 n3) (Q.B.z m0 m1 m2 m3)), .int .i64 0]) else none else none else none
noncomputable def rnGo (Q : RN) (b0 b1 b2 b3 : Int) : Nat → Nat → Int → Int → Int → Int → Int → Int → Int → Int → Int → Option V
  | 0, _, _, _, _, _, _, _, _, _, _ => none
  | u + 1, k, s, a0, a1, a2, a3, n0, n1, n2, n3 => bif Q.B.inn a0 a1 a2 a3 && Q.B.inn n0 n1 n2 n3 then bif decide (Q.B.cmp (Q.B.z a0 a1 a2 a3) (Q.B.z n0 n1 n2 n3) < 0) then
      bif Q.B.inn a0 a1 a2 a3 && Q.B.inn b0 b1 b2 b3 then Q.B.ws (Q.B.mul (Q.B.z a0 a1 a2 a3) (Q.B.z b0 b1 b2 b3)) fun c0 c1 c2 c3 => rnGo Q b0 b1 b2 b3 u (k + 1) s c0 c1 c2 c3 n0 n1 n2 n3 else none
    else rnRest Q k s b0 b1 b2 b3 a0 a1 a2 a3 n0 n1 n2 n3 else none
theorem rn_eval (Q : RN) (s n0 n1 n2 n3 : Int) : evalFn Tryz.prog (orcRn Q) (rnLs Q false) 4 24 Tryz.f24 [.int .i64 s, .agg [.int .u32 n0, .int .u32 n1, .int .u32 n2, .int .u32 n3]] [] (fun v _ => some v) =
    bif !rightB s then none else bif zeroB n0 n1 n2 n3 then none else bif Q.B.inn n0 n1 n2 n3 && Q.B.inn 0 0 0 16777216 then bif decide (0 < Q.B.cmp (Q.B.z n0 n1 n2 n3) (Q.B.z 0 0 0 16777216)) then none else
      bif Q.fit 2147483646 then Q.B.ws (Q.ofz 2147483646) fun b0 b1 b2 b3 => rnGo Q b0 b1 b2 b3 4 1 s b0 b1 b2 b3 n0 n1 n2 n3 else none else none := by kernel_rfl
theorem rn_bad (Q : RN) (s n0 n1 n2 n3 : Int) : evalFn Tryz.prog (orcRn Q) (rnLs Q true) 4 24 Tryz.f24 [.int .i64 s, .agg [.int .u32 n0, .int .u32 n1, .int .u32 n2, .int .u32 n3]] [] (fun v _ => some v) =
    bif !rightB s then some errN else bif zeroB n0 n1 n2 n3 then some errN else bif Q.B.inn n0 n1 n2 n3 && Q.B.inn 0 0 0 16777216 then bif decide (0 < Q.B.cmp (Q.B.z n0 n1 n2 n3) (Q.B.z 0 0 0 16777216)) then some errN else none else none := by kernel_rfl
end Go.Proofs.YtnbfnoomhlamnaaGreat
