/- Texts merged: Z13, FrameN. -/
import Derived.Test.YtpalajfcffdhoaaGreatSRnP
import Derived.Test.YtpalajfcffdhoaaGreatEng4
import Derived.Test.YtpalajfcffdhoaaGreatSFrame
import Derived.Test.YtpalajfcffdhoaaGreatPar
/- Chapter 6: Random's contract and its reference's; the laws DealNumbers and DealDraws answer true. -/
namespace Go.Proofs.YtpalajfcffdhoaaGreat.N3
open Go Go.Eng
theorem natBz_ok {s z : Int} (hs : rightB s = true) (h1 : 1 ≤ z) (h2 : z ≤ 1329227995784915872903807060280344576) : natBz s z = false := by
  unfold natBz
  rw [hs, decide_eq_false (show ¬ z = 0 by omega), decide_eq_false (show ¬ 1329227995784915872903807060280344576 < z by omega)]; rfl
theorem natD_in {s z : Int} (hs : rightB s = true) (h1 : 1 ≤ z) (h2 : z ≤ 1329227995784915872903807060280344576) : rightB (natD s z).1 = true ∧ inZ (natD s z).2 := by
  have hk := natK_ok h1 h2
  have hd := drawN_in (natK 4 1 2147483646 z).1 s 0 1 hs (by unfold inZ; omega) (by unfold inZ; omega)
  exact natR_in _ _ _ _ _ hd.1 hd.2
theorem natV_lt {s z : Int} (hs : rightB s = true) (h1 : 1 ≤ z) (h2 : z ≤ 1329227995784915872903807060280344576) : 0 ≤ natV s z ∧ natV s z < z := by
  unfold natV
  rw [natBz_ok hs h1 h2, cond_false]
  have := remZ_lt (natD_in hs h1 h2).2.1 h1
  omega
end Go.Proofs.YtpalajfcffdhoaaGreat.N3
namespace Go.Proofs.YtpalajfcffdhoaaGreat
open Go Go.Eng Go.Deal
def bnE (s z : Int) : Int := N3.errI (!N3.natBz s z)
noncomputable def rnB (s a b c d : Int) : Bool := N3.rightB s && parB a b c d
noncomputable def rnS (s a b c d : Int) : Int := bif rnB s a b c d then N3.natS s (wyI a b c d) else 0
noncomputable def rn0 (s a b c d : Int) : Int := bif rnB s a b c d then cp0 a b c d (N3.natV s (wyI a b c d)) else 0
noncomputable def rn1 (s a b c d : Int) : Int := bif rnB s a b c d then cp1 a b c d (N3.natV s (wyI a b c d)) else 0
noncomputable def rn2 (s a b c d : Int) : Int := bif rnB s a b c d then cp2 a b c d (N3.natV s (wyI a b c d)) else 0
noncomputable def rn3 (s a b c d : Int) : Int := bif rnB s a b c d then cp3 a b c d (N3.natV s (wyI a b c d)) else 0
noncomputable def rnE (s a b c d : Int) : Int := bif N3.rightB s then bif parB a b c d then 0 else 60 else 2
noncomputable def dR : DR := ⟨n6, in4, leI, wyI, N3.rightB, N3.natS, N3.natV, bnE, cp0, cp1, cp2, cp3, cpE, ixI, ixE, rnS, rn0, rn1, rn2, rn3, rnE⟩
theorem dRn : dR.n = n6 := rfl
theorem dRu (a b c d : Int) : dR.u a b c d = in4 a b c d := rfl
theorem tabZ0_ok : PTabOk Tryz.prog (tabZ0 dR) := by
  refine addTab_ok ?_ (addTab_ok ?_ (addTab_ok ?_ (addTab_ok ?_ (addTab_ok ?_ (addTab_ok ?_ (addTab_ok ?_ (addTab_ok ?_ (addTab_ok ?_ (addTab_ok ?_ (addTab_ok ?_ emptyTab_ok))))))))))
  · intro args c v h hc
    unfold zRb at h; split at h
    · cases h; exact N3.right_pure _
    · cases h
  · intro args c v h hc
    unfold zRb at h; split at h
    · cases h; exact N3.rright_pure _
    · cases h
  · intro args c v h hc
    unfold zWay at h; split at h
    · cases h; exact ways_p hc
    · cases h
  · intro args c v h hc
    unfold zWay at h; split at h
    · cases h; exact rways_p hc
    · cases h
  · intro args c v h hc
    unfold zBn at h; split at h
    · cases h; exact N3.nat_pure hc
    · cases h
  · intro args c v h hc
    unfold zBn at h; split at h
    · cases h; exact N3.rnat_pure hc
    · cases h
  · intro args c v h hc
    unfold zCp at h; split at h
    · cases h; rw [Bool.and_eq_true] at hc; exact cpl_p hc.1 hc.2
    · cases h
  · intro args c v h hc
    unfold zCp at h; split at h
    · cases h; rw [Bool.and_eq_true] at hc; exact rcpl_p hc.1 hc.2
    · cases h
  · intro args c v h hc
    unfold zIx at h; split at h
    · cases h; rw [Bool.and_eq_true] at hc; exact idx_p hc.1 hc.2
    · cases h
  · intro args c v h hc
    unfold zIx at h; split at h
    · cases h; rw [Bool.and_eq_true] at hc; exact rix_p hc.1 hc.2
    · cases h
  · intro args c v h hc
    unfold zAw at h; split at h
    · cases h; exact awake_p
    · cases h
theorem orcZ0_ok : OracleOk Tryz.prog (orcZ0 dR) := orcN_ok tabZ0_ok plainL_ok
theorem bn_ok {s : Int} {W : Nat} (hs : N3.rightB s = true) (h0 : 0 < W) (h1 : W ≤ 2 ^ 117) : bnE s (W : Int) = 0 ∧ (∃ v : Nat, N3.natV s (W : Int) = v ∧ v < W) := by
  have l : (W : Int) ≤ 1329227995784915872903807060280344576 := by omega
  have e := N3.natBz_ok hs (show (1 : Int) ≤ (W : Int) by omega) l
  have hv := N3.natV_lt hs (show (1 : Int) ≤ (W : Int) by omega) l
  exact ⟨by unfold bnE; rw [e]; rfl, ⟨(N3.natV s (W : Int)).toNat, by omega, by omega⟩⟩
/-- What both answer, by cases. -/
theorem rn_key {s : Int} {a b c d : Nat} (X : Option V) (H1 : N3.rightB s = false → X = some (rzB 2)) (H2 : N3.rightB s = true → parB (a : Int) (b : Int) (c : Int) (d : Int) = false → X = some (rzB 60))
    (H3 : N3.rightB s = true → PartD a b c d → ∀ v : Nat, N3.natV s ((wy (lks a b c d) : Nat) : Int) = v → v < wy (lks a b c d) → X = some (.tuple [.int .i64 (N3.natS s ((wy (lks a b c d) : Nat) : Int)), q4 (cp0 (a : Int) b c d (v : Int)) (cp1 (a : Int) b c d (v : Int)) (cp2 (a : Int) b c d (v : Int)) (cp3 (a : Int) b c d (v : Int)), .int .i64 0])) :
    X = some (.tuple [.int .i64 (rnS s a b c d), q4 (rn0 s a b c d) (rn1 s a b c d) (rn2 s a b c d) (rn3 s a b c d), .int .i64 (rnE s a b c d)]) := by
  unfold rnS rn0 rn1 rn2 rn3 rnE rnB
  cases hs : N3.rightB s with
  | false => rw [H1 hs]; rfl
  | true =>
    cases hp : parB (a : Int) (b : Int) (c : Int) (d : Int) with
    | false => rw [H2 hs hp]; rfl
    | true =>
      have P := parB_iff.1 hp
      have hW : wyI (a : Int) (b : Int) (c : Int) (d : Int) = ((wy (lks a b c d) : Nat) : Int) := by unfold wyI; rw [hp]; rfl
      obtain ⟨_, v, b2, b3⟩ := bn_ok (W := wy (lks a b c d)) hs (wy_pos _) (wy_lk a b c d)
      rw [H3 hs P v b2 b3, hW, b2]
      rfl
theorem dR_bad {a b c d : Nat} (hp : parB (a : Int) (b : Int) (c : Int) (d : Int) = false) : dR.le (a : Int) (b : Int) (c : Int) (d : Int) = 60 := by
  show leI (a : Int) (b : Int) (c : Int) (d : Int) = 60
  unfold leI; rw [hp]; rfl
theorem dR_le {a b c d : Nat} (P : PartD a b c d) : dR.le (a : Int) (b : Int) (c : Int) (d : Int) = 0 := by
  show leI (a : Int) (b : Int) (c : Int) (d : Int) = 0
  unfold leI; rw [parB_iff.2 P]; rfl
theorem dR_wy {a b c d : Nat} (P : PartD a b c d) : dR.wy (a : Int) (b : Int) (c : Int) (d : Int) = ((wy (lks a b c d) : Nat) : Int) := by
  show wyI (a : Int) (b : Int) (c : Int) (d : Int) = _
  unfold wyI; rw [parB_iff.2 P]; rfl
theorem dR_ce {a b c d v : Nat} (P : PartD a b c d) (h : v < wy (lks a b c d)) : dR.ce (a : Int) (b : Int) (c : Int) (d : Int) (v : Int) = 0 := by
  show cpE (a : Int) (b : Int) (c : Int) (d : Int) (v : Int) = 0
  have ho0 : o0 (a : Int) (b : Int) (c : Int) (d : Int) = ((wy (lks a b c d) : Nat) : Int) := rfl
  unfold cpE; rw [parB_iff.2 P, ho0, decide_eq_true (show (v : Int) < ((wy (lks a b c d) : Nat) : Int) by omega)]; rfl
theorem rnd_p {s a b c d : Int} (h : in4 a b c d = true) : FnPure Tryz.prog 5 [.int .i64 s, q4 a b c d] (.tuple [.int .i64 (rnS s a b c d), q4 (rn0 s a b c d) (rn1 s a b c d) (rn2 s a b c d) (rn3 s a b c d), .int .i64 (rnE s a b c d)]) := by
  have h4 := h
  obtain ⟨a, b, c, d, rfl, rfl, rfl, rfl, ha, hb, hc, hd⟩ := in4_nat h
  refine fnPure_of_eval (N := 100) orcZ0_ok mixed Tryz.func5 (by kernel_rfl) noLoops_ok ?_ rfl rfl
  refine (rnd_eval dR _ _ _ _ _).trans ?_
  refine rn_key _ (fun hs => ?_) (fun hs hp => ?_) (fun hs P v hv hlt => ?_)
  · rw [show dR.rb s = N3.rightB s from rfl, hs]; rfl
  · rw [show dR.rb s = N3.rightB s from rfl, hs, dRu, h4, dR_bad hp]; rfl
  · have hwl := wy_lk a b c d
    obtain ⟨b1, _⟩ := bn_ok (W := wy (lks a b c d)) hs (wy_pos _) hwl
    rw [show dR.rb s = N3.rightB s from rfl, hs, dRu, h4, dR_le P, dR_wy P, dRn, ii, qq (Nat.lt_of_le_of_lt hwl (by decide)), show dR.be s ((wy (lks a b c d) : Nat) : Int) = bnE s ((wy (lks a b c d) : Nat) : Int) from rfl, b1, show dR.bv s ((wy (lks a b c d) : Nat) : Int) = N3.natV s ((wy (lks a b c d) : Nat) : Int) from rfl, hv, ii, qq (Nat.lt_trans hlt (Nat.lt_of_le_of_lt hwl (by decide))), dR_ce P hlt]
    rfl
theorem rrnd_p {s a b c d : Int} (h : in4 a b c d = true) : FnPure Tryz.prog 6 [.int .i64 s, q4 a b c d] (.tuple [.int .i64 (rnS s a b c d), q4 (rn0 s a b c d) (rn1 s a b c d) (rn2 s a b c d) (rn3 s a b c d), .int .i64 (rnE s a b c d)]) := by
  have h4 := h
  obtain ⟨a, b, c, d, rfl, rfl, rfl, rfl, ha, hb, hc, hd⟩ := in4_nat h
  refine fnPure_of_eval (N := 100) orcZ0_ok mixed Tryz.func6 (by kernel_rfl) noLoops_ok ?_ rfl rfl
  refine (rrnd_eval dR _ _ _ _ _).trans ?_
  refine rn_key _ (fun hs => ?_) (fun hs hp => ?_) (fun hs P v hv hlt => ?_)
  · rw [show dR.rb s = N3.rightB s from rfl, hs]; rfl
  · rw [show dR.rb s = N3.rightB s from rfl, hs, dRu, h4, dR_bad hp]; rfl
  · have hwl := wy_lk a b c d
    rw [show dR.rb s = N3.rightB s from rfl, hs, dRu, h4, dR_le P, dR_wy P, dRn, ii, qq (Nat.lt_of_le_of_lt hwl (by decide)), show dR.bv s ((wy (lks a b c d) : Nat) : Int) = N3.natV s ((wy (lks a b c d) : Nat) : Int) from rfl, hv, ii, qq (Nat.lt_trans hlt (Nat.lt_of_le_of_lt hwl (by decide)))]
    rfl
theorem tabZ1_ok : PTabOk Tryz.prog (tabZ1 dR) := by
  refine addTab_ok ?_ (addTab_ok ?_ tabZ0_ok)
  · intro args c v h hc
    unfold zRn at h; split at h
    · cases h; exact rnd_p hc
    · cases h
  · intro args c v h hc
    unfold zRn at h; split at h
    · cases h; exact rrnd_p hc
    · cases h
theorem orcZ1_ok : OracleOk Tryz.prog (orcZ1 dR) := orcN_ok tabZ1_ok plainL_ok
theorem e4_r (a b c d : Int) : e4 a b c d = true := by unfold e4; simp
theorem draws_true (s : Int) {a b c d : Int} (h : in4 a b c d = true) : evalFn Tryz.prog (orcZ1 dR) noLoops 100 3 Tryz.f3 [.int .i64 s, q4 a b c d] [] (fun v _ => some v) = some (.bool true) := by
  have e := draws_eval dR s a b c d
  rw [dRu, h, e4_r] at e
  simp only at e
  exact e
theorem numbers_true {a b c d x y z w e f g i : Int} (h : in4 a b c d = true) (h2 : in4 x y z w = true) (h3 : N2.inN e f g i = true) : evalFn Tryz.prog (orcZ0 dR) noLoops 100 4 Tryz.f4 [q4 a b c d, q4 x y z w, .agg [.int .u32 e, .int .u32 f, .int .u32 g, .int .u32 i]] [] (fun v _ => some v) = some (.bool true) := by
  have k := numbers_eval dR a b c d x y z w e f g i
  rw [dRu, dRu, h, h2, show dR.n.inn e f g i = true from h3, e4_r, e4_r] at k
  simp only at k
  exact k
end Go.Proofs.YtpalajfcffdhoaaGreat

/- Chapter 6: the frame of a law over numbers and deals. -/
namespace Go.Proofs.YtpalajfcffdhoaaGreat
open Go Go.Eng Go.ChangeShapes Go.WideShapes Go.ChangeAt Go.RowKit Go.WideMaps
theorem ownN : ownKnob Tryz.prog.godebug = none := by kernel_rfl
theorem u8_rg {a : Int} (w : (Lit.int .u8 a).wf = true) : 0 ≤ a ∧ a < 256 := by
  simp only [Lit.wf, IntKind.min, IntKind.max, IntKind.signed, IntKind.bits, Bool.and_eq_true] at w
  simp at w
  omega
theorem in64_of {a : Int} (w : (Lit.int .u64 a).wf = true) : in64 a = true := by
  simp only [Lit.wf, IntKind.min, IntKind.max, IntKind.signed, IntKind.bits, Bool.and_eq_true] at w
  simp at w
  exact in64_iff.2 ⟨by omega, by omega⟩
theorem in4_of {a b c d : Int} (ha : (Lit.int .u64 a).wf = true) (hb : (Lit.int .u64 b).wf = true) (hc : (Lit.int .u64 c).wf = true) (hd : (Lit.int .u64 d).wf = true) : in4 a b c d = true := by
  unfold in4
  rw [in64_of ha, in64_of hb, in64_of hc, in64_of hd]; rfl
theorem u32_of {a : Int} (w : (Lit.int .u32 a).wf = true) : 0 ≤ a ∧ a < 4294967296 := by
  simp only [Lit.wf, IntKind.min, IntKind.max, IntKind.signed, IntKind.bits, Bool.and_eq_true] at w
  simp at w
  omega
theorem inN_rg {a b c d : Int} (h0 : (Lit.int .u32 a).wf = true) (h1 : (Lit.int .u32 b).wf = true) (h2 : (Lit.int .u32 c).wf = true) (h3 : (Lit.int .u32 d).wf = true) : N2.inN a b c d = true :=
  N2.inN_iff.2 ⟨u32_of h0, u32_of h1, u32_of h2, u32_of h3⟩
end Go.Proofs.YtpalajfcffdhoaaGreat
