/- Texts merged: NbS, NbF. -/
import Derived.Test.YtnbfnoomhlamnaaGreatNbL
/- Chapter 3: BelowNat: the loop's summary; what the function answers. -/
namespace Go.Proofs.YtnbfnoomhlamnaaGreat
open Go Go.Eng
def nbFin (N : NB) (k : Nat) : List PV → Fin
  | [.i i, .i s, .i n0, .i n1, .i n2, .i n3, .i r0, .i r1, .i r2, .i r3, .i b0, .i b1, .i b2, .i b3, .i m0, .i m1, .i m2, .i m3, .i v0, .i v1, .i v2, .i v3] =>
    .br (decide (i = 0) && (rightB s && (decide (b0 = 2147483646) && (decide (b1 = 0) && (decide (b2 = 0) && (decide (b3 = 0) && (N.inn m0 m1 m2 m3 && N.inn v0 v1 v2 v3)))))))
      (.leaf (.exit 0) ((nbX k).at [.i (N.ls k s (N.z m0 m1 m2 m3) (N.z v0 v1 v2 v3)), .i n0, .i n1, .i n2, .i n3, .i r0, .i r1, .i r2, .i r3, .i b0, .i b1, .i b2, .i b3, .i m0, .i m1, .i m2, .i m3,
        .i (N.w0 (N.lv k s (N.z m0 m1 m2 m3) (N.z v0 v1 v2 v3))), .i (N.w1 (N.lv k s (N.z m0 m1 m2 m3) (N.z v0 v1 v2 v3))), .i (N.w2 (N.lv k s (N.z m0 m1 m2 m3) (N.z v0 v1 v2 v3))), .i (N.w3 (N.lv k s (N.z m0 m1 m2 m3) (N.z v0 v1 v2 v3)))])) .no
  | _ => .no
noncomputable def nbSum (N : NB) : LoopSum := lsumE 9 (nbT 1) nbLp (nbFin N 1) (lsumE 10 (nbT 2) nbLp (nbFin N 2) (lsumE 11 (nbT 3) nbLp (nbFin N 3) (lsumE 12 (nbT 4) nbLp (nbFin N 4) noSum)))
theorem nbFin_ok {k : Nat} (hk : 1 ≤ k ∧ k ≤ 4) : ∀ rd ps e s, (nbFin nB k ps).pick = some (e, s) → SimC Tryz.prog (8 + k) rd (.loop nbLp) ((nbT k).at ps) e s := by
  intro rd ps e s h
  unfold nbFin at h
  split at h
  · rename_i i s n0 n1 n2 n3 r0 r1 r2 r3 b0 b1 b2 b3 m0 m1 m2 m3 v0 v1 v2 v3
    simp only [Fin.pick] at h
    cases hi : (decide (i = 0) && (rightB s && (decide (b0 = 2147483646) && (decide (b1 = 0) && (decide (b2 = 0) && (decide (b3 = 0) && (nB.inn m0 m1 m2 m3 && nB.inn v0 v1 v2 v3))))))) with
    | false => rw [hi] at h; cases h
    | true =>
      rw [hi, cond_true] at h
      cases h
      simp only [Bool.and_eq_true, decide_eq_true_eq] at hi
      obtain ⟨rfl, hs, rfl, rfl, rfl, rfl, hm, hv⟩ := hi
      have hv' : N2.inN v0 v1 v2 v3 = true := hv
      have hr := N2.nval_range hv'
      have hw := N2.w_nval hv'
      have H := nb_loop k hk rd n0 n1 n2 n3 r0 r1 r2 r3 m0 m1 m2 m3 hm (100, s, N2.nval v0 v1 v2 v3) ⟨Nat.le_refl _, hs, hr⟩
      dsimp only at H
      rw [hw.1, hw.2.1, hw.2.2.1, hw.2.2.2] at H
      exact H
  · cases h
theorem nbSum_ok : LoopOk Tryz.prog (nbSum nB) :=
  lsumE_ok (nbT_ok 1 (by omega)) (nbFin_ok (k := 1) (by omega)) (lsumE_ok (nbT_ok 2 (by omega)) (nbFin_ok (k := 2) (by omega)) (lsumE_ok (nbT_ok 3 (by omega)) (nbFin_ok (k := 3) (by omega)) (lsumE_ok (nbT_ok 4 (by omega)) (nbFin_ok (k := 4) (by omega)) noSum_ok)))
noncomputable def nbLs (N : NB) : FuncId → Loops := fun f => match f with
  | 45 => sums (fun n => match n with | 3 => some (nbSum N) | _ => none)
  | _ => noLoops
theorem nbLs_ok : ∀ f, loopsOk Tryz.prog (nbLs nB f) := fun f => by
  unfold nbLs
  split
  · intro n g hg
    simp only [sums] at hg
    split at hg
    · cases hg; exact nbSum_ok
    · cases hg
  · exact noLoops_ok
def tabB2 (N : NB) : PTab := addTab 25 gRight (tabB N)
theorem tabB2_ok : PTabOk Tryz.prog (tabB2 nB) := addTab_ok gRight_ok tabB_ok
noncomputable abbrev orcB2 (N : NB) : Oracle := inl Tryz.prog ftab (tabB2 N) (nbLs N) 200 never dom23 (hOrc (hTabBn N)) 20
theorem orcB2_ok : OracleOk Tryz.prog (orcB2 nB) := inl_ok (hOrc_ok hTabBn_ok) ftab_ok tabB2_ok nbLs_ok mixed 20
end Go.Proofs.YtnbfnoomhlamnaaGreat

/- Chapter 3: BelowNat: what the function answers, as a formula. -/
namespace Go.Proofs.YtnbfnoomhlamnaaGreat
open Go Go.Eng
def NB.ws {R : Type} (N : NB) (z : Int) (K : Int → Int → Int → Int → R) : R := K (N.w0 z) (N.w1 z) (N.w2 z) (N.w3 z)
/-- From the product of the base's powers on. -/
noncomputable def nbRest (N : NB) (k : Nat) (s a0 a1 a2 a3 n0 n1 n2 n3 : Int) : Option V :=
  bif N.inn a0 a1 a2 a3 && N.inn n0 n1 n2 n3 then
    N.ws (N.rem (N.z a0 a1 a2 a3) (N.z n0 n1 n2 n3)) fun o0 o1 o2 o3 => bif N.inn a0 a1 a2 a3 && N.inn o0 o1 o2 o3 then
      N.ws (N.sub (N.z a0 a1 a2 a3) (N.z o0 o1 o2 o3)) fun m0 m1 m2 m3 =>
        nbD N 2147483646 0 0 0 k s 0 0 0 0 1 0 0 0 (fun s' v0 v1 v2 v3 =>
          bif codesB [(nbLp, nbLp)] then bif true && (rightB s' && (true && (true && (true && (true && (N.inn m0 m1 m2 m3 && N.inn v0 v1 v2 v3)))))) then
            N.ws (N.lv k s' (N.z m0 m1 m2 m3) (N.z v0 v1 v2 v3)) fun x0 x1 x2 x3 => bif N.inn x0 x1 x2 x3 && N.inn n0 n1 n2 n3 then
              some (.tuple [.int .i64 (N.ls k s' (N.z m0 m1 m2 m3) (N.z v0 v1 v2 v3)), N.nW (N.rem (N.z x0 x1 x2 x3) (N.z n0 n1 n2 n3)), .int .i64 0]) else none
            else none else none) else none else none
noncomputable def nbGo (N : NB) : Nat → Nat → Int → Int → Int → Int → Int → Int → Int → Int → Int → Option V
  | 0, _, _, _, _, _, _, _, _, _, _ => none
  | u + 1, k, s, a0, a1, a2, a3, n0, n1, n2, n3 => bif N.inn a0 a1 a2 a3 && N.inn n0 n1 n2 n3 then bif decide (N.cmp (N.z a0 a1 a2 a3) (N.z n0 n1 n2 n3) < 0) then
      bif N.inn a0 a1 a2 a3 && N.inn 2147483646 0 0 0 then N.ws (N.mul (N.z a0 a1 a2 a3) (N.z 2147483646 0 0 0)) fun b0 b1 b2 b3 => nbGo N u (k + 1) s b0 b1 b2 b3 n0 n1 n2 n3 else none
    else nbRest N k s a0 a1 a2 a3 n0 n1 n2 n3 else none
noncomputable def dec2 : Loops := decs fun r => match r with | 2 => some false | _ => none
theorem nb_eval (N : NB) (s n0 n1 n2 n3 : Int) : evalFn Tryz.prog (orcB2 N) dec2 4 23 Tryz.f23 [.int .i64 s, .agg [.int .u32 n0, .int .u32 n1, .int .u32 n2, .int .u32 n3]] [] (fun v _ => some v) =
    bif !rightB s then none else bif zeroB n0 n1 n2 n3 then none else bif N.inn n0 n1 n2 n3 && N.inn 0 0 0 16777216 then bif decide (0 < N.cmp (N.z n0 n1 n2 n3) (N.z 0 0 0 16777216)) then none else
      nbGo N 4 1 s 2147483646 0 0 0 n0 n1 n2 n3 else none := by kernel_rfl
end Go.Proofs.YtnbfnoomhlamnaaGreat
