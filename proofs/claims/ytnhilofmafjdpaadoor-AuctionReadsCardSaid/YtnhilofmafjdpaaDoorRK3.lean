/- Chapter 9: the reference: Contract's contract. -/
import Derived.Test.YtnhilofmafjdpaaDoorRK2
namespace Go.Proofs.YtnhilofmafjdpaaDoor
open Go Go.Eng
/-- The risk behind a place, the declarer. -/
def rkV (xs : List Int) (i : Int) : Int := (rkF 0 0 (xs.drop i.toNat)).getD 0
def dcV (d dn i : Int) (xs : List Int) : Int := match fstI d ((d + i) % 2) dn 0 xs with
  | some j => (d + (j : Int)) % 4
  | none => 0
def K1 (i : Int) (xs : List Int) : Prop := ∃ a : Nat, ∃ R, a < xs.length ∧ i = ((a + 1 : Nat) : Int) ∧ xs.length ≤ 1000000 ∧ allU xs = true ∧ rkF 0 0 (xs.drop (a + 1)) = some R
def K2 (d dn i : Int) (xs : List Int) : Prop := ∃ j : Nat, (0 ≤ d ∧ d < 4) ∧ xs.length ≤ 1000000 ∧ allU xs = true ∧ fstI d ((d + i) % 2) dn 0 xs = some j ∧ (j : Int) ≤ i ∧ i < (xs.length : Int)
noncomputable def k1Tree (C1 : Int → List Int → Bool) (RV : List Int → Int → Int) (nn : Bool) : List PV → Fin
  | [.i d, .i e, .i a, .i dn, .i i, .l xs, .i z1, .i z2, .i z3, .i z4, .i c1, .i c2, .i c3, .i c4] => .br (decide (c3 = 0) && C1 i xs) (.leaf (.exit 0) ((k1X nn).at [.i d, .i e, .i a, .i dn, .l xs, .i z1, .i z2, .i z3, .i z4, .i c1, .i c2, .i (RV xs i), .i c4])) .no
  | _ => .no
noncomputable def k2Tree (C2 : Int → Int → Int → List Int → Bool) (DV : Int → Int → Int → List Int → Int) (nn : Bool) : List PV → Fin
  | [.i d, .i e, .i dn, .i i, .l xs, .i z1, .i z2, .i z3, .i z4, .i c1, .i c2, .i c3, .i _] => .br (C2 d dn i xs) (.leaf (.exit 2) ((k2X nn).at [.i e, .l xs, .i z1, .i z2, .i z3, .i z4, .i c1, .i c2, .i c3, .i (DV d dn i xs)])) .no
  | _ => .no
noncomputable def rkL (C1 : Int → List Int → Bool) (RV : List Int → Int → Int) (C2 : Int → Int → Int → List Int → Bool) (DV : Int → Int → Int → List Int → Int) (nn : Bool) : Loops := sums (fun n => match n with | 11 => some (lsumF 1 (k1T nn) k1Lp (k1Tree C1 RV nn)) | 16 => some (lsumF 1 (k2T nn) k2Lp (k2Tree C2 DV nn)) | _ => none)
noncomputable def c1B (i : Int) (xs : List Int) : Bool := pB (K1 i xs)
noncomputable def c2B (d dn i : Int) (xs : List Int) : Bool := pB (K2 d dn i xs)
theorem rkL_ok (nn : Bool) : loopsOk Tryd.prog (rkL c1B rkV c2B dcV nn) := by
  intro n g hg
  simp only [rkL, sums] at hg
  split at hg
  · cases hg
    refine lsumF_ok (by cases nn <;> kernel_rfl) (fun rd ps e1 st1 hq => ?_)
    unfold k1Tree at hq
    split at hq
    · rename_i d e a dn i xs z1 z2 z3 z4 c1 c2 c3 c4
      simp only [Fin.pick] at hq
      cases hc : (decide (c3 = 0) && c1B i xs) with
      | false => rw [hc] at hq; cases hq
      | true =>
        rw [hc, cond_true] at hq
        simp only [c1B, Bool.and_eq_true, decide_eq_true_eq, pB_iff] at hc
        obtain ⟨rfl, b, R, h1, rfl, h2, h3, h4⟩ := hc
        have h := k1_loop nn rd d e a dn z1 z2 z3 z4 c1 c2 c4 R xs h2 h3 b (0, 0) ⟨by simp only; omega, by simp, h4⟩
        have e : rkV xs ((b + 1 : Nat) : Int) = R := by unfold rkV; rw [show (((b + 1 : Nat) : Int)).toNat = b + 1 from rfl, h4]; rfl
        rw [e] at hq
        cases hq
        exact h
    · cases hq
  · cases hg
    refine lsumF_ok (by cases nn <;> kernel_rfl) (fun rd ps e1 st1 hq => ?_)
    unfold k2Tree at hq
    split at hq
    · rename_i d e dn i xs z1 z2 z3 z4 c1 c2 c3 c4
      simp only [Fin.pick] at hq
      cases hc : c2B d dn i xs with
      | false => rw [hc] at hq; cases hq
      | true =>
        rw [hc, cond_true] at hq
        simp only [c2B, pB_iff] at hc
        obtain ⟨j, h1, h2, h3, h4, h5, h6⟩ := hc
        obtain ⟨⟨_, q1⟩, q2, q3⟩ := fstI_some xs 0 j h4
        simp only [Nat.sub_zero] at q1 q2 q3
        have h := k2_loop nn rd d e dn z1 z2 z3 z4 c1 c2 c3 xs h2 h3 h1 ((d + i) % 2) j q1 q2 (fun k hk => q3 k (Nat.zero_le _) hk) (i, c4) ⟨by simp only; omega, h6, rfl, fun hlt => by simp only at hlt; omega⟩
        have e : dcV d dn i xs = (d + (j : Int)) % 4 := by unfold dcV; rw [h4]
        rw [e] at hq
        cases hq
        exact h
    · cases hq
  · cases hg
noncomputable def rcA (a b c d e : Int) : Option V := some (.tuple [.agg [.int .u8 a, .int .u8 b, .int .u8 c, .int .u8 d], .int .i64 e])
noncomputable def rconE (R : RH) (C1 : Int → List Int → Bool) (RV : List Int → Int → Int) (C2 : Int → Int → Int → List Int → Bool) (DV : Int → Int → Int → List Int → Int) (d : Int) (xs : List Int) : Option V :=
  bif R.KR d xs then bif !decide (R.CE d xs = 0) then rcA 0 0 0 0 2 else bif R.G.F.KS xs then bif !R.G.EN xs then rcA 0 0 0 0 91 else bif R.G.F.KS xs then bif !R.G.F.LB xs then rcA 0 0 0 0 0 else
    atU xs (R.G.F.LI xs) (fun v => bif decide (0 ≤ v ∧ v < 256) then cond (codesB [(k1Lp, k1Lp)]) (bif decide ((0 : Int) = 0) && C1 (wr .i64 (R.G.F.LI xs + 1)) xs then cond (codesB [(k2Lp, k2Lp)]) (bif C2 d (dnZ v) (R.G.F.LI xs) xs then
      rcA (lvZ v) (dnZ v) (RV xs (wr .i64 (R.G.F.LI xs + 1))) (DV d (dnZ v) (R.G.F.LI xs) xs) 0 else none) none else none) none else none) else none else none else none
theorem rcon_eval (R : RH) (TX : Int → ByteArray) (TE : Int → Int) (C1 : Int → List Int → Bool) (RV : List Int → Int → Int) (C2 : Int → Int → Int → List Int → Bool) (DV : Int → Int → Int → List Int → Int) (nn : Bool) (d : Int) (xs : List Int) : evalFn Tryd.prog (orcH R (tabK R.SE TX TE) plainL) (rkL C1 RV C2 DV nn) 100 42 Tryd.f42 [.int .u8 d, .gs 0] [.rs nn 1 (.ints .u8 xs)] (fun v _ => some v) =
    rconE R C1 RV C2 DV d xs := by cases nn <;> kernel_rfl
theorem rcon_fn (nn : Bool) {d : Int} {xs : List Int} (h : kR d xs = true) : FnOK Tryd.prog 42 [.int .u8 d, .gs 0] [.rs nn 1 (.ints .u8 xs)] (.tuple [.agg [.int .u8 (ctL (fol d xs)), .int .u8 (ctD (fol d xs)), .int .u8 (ctR (fol d xs)), .int .u8 (ctS (fol d xs))], .int .i64 (ctE (fol d xs))]) [.rs nn 1 (.ints .u8 xs)] := by
  obtain ⟨g1, g2, g3⟩ := kR_ok h
  have hv : evalFn Tryd.prog (orcH rH (tabK rH.SE rtxt rtxE) plainL) (rkL c1B rkV c2B dcV nn) 100 42 Tryd.f42 [.int .u8 d, .gs 0] [.rs nn 1 (.ints .u8 xs)] (fun v _ => some v) = rcA (ctL (fol d xs)) (ctD (fol d xs)) (ctR (fol d xs)) (ctS (fol d xs)) (ctE (fol d xs)) := by
    rw [rcon_eval]
    unfold rconE
    rw [show rH.KR d xs = true from h, show rH.CE d xs = (fol d xs).e from rfl, show rH.G.F.KS xs = true from g3, show rH.G.EN xs = endV xs from rfl, show rH.G.F.LB xs = (lastN xs xs.length).2 from rfl, show rH.G.F.LI xs = (lastN xs xs.length).1 from rfl]
    unfold ctL ctD ctR ctS ctE ctM okU
    by_cases he : (fol d xs).e = 0
    · rw [decide_eq_true he, end_is g1 he]
      have hu := okA_U g1
      have hh := hist g1 he
      have iv := inv_fol g1 he
      have hd := fol_d he
      have hd0 : 0 ≤ d := by simp only [okA, Bool.and_eq_true, decide_eq_true_eq] at g1; exact g1.1
      rw [last_made hh]
      have hlm := last_made hh
      generalize (fol d xs).s = s at *
      cases ho : ovr s with
      | false => rfl
      | true =>
        cases hm : s.b.m with
        | false => rfl
        | true =>
          obtain ⟨a, a1, a2, a3, a4, a5, a6⟩ := hh.bid hm
          obtain ⟨k, k1, k2, k3, k4⟩ := lastN_some xs.length (hlm.trans hm)
          have hka : k = a := by
            rcases Nat.lt_trichotomy k a with h | h | h
            · have := k4 a h a1; rw [a2, a3] at this; cases this
            · exact h
            · have := a5 k h k1; rw [k3] at this; cases this
          subst hka
          obtain ⟨⟨b1, b2, b3, b4⟩, b5⟩ := iv.b hm
          rw [getD_at k1] at a2
          have hdn := dn_range b1
          have e4 : wr .i64 ((k : Int) + 1) = ((k + 1 : Nat) : Int) := by rw [wr64 (by omega) (by omega)]; omega
          have eL : lvZ xs[k] = s.b.l := by unfold lvZ; rw [a2, b1, b2]; rfl
          have eD : dnZ xs[k] = s.b.d := by unfold dnZ; rw [a2, b1, b3]; rfl
          have eR : rkV xs ((k + 1 : Nat) : Int) = s.risk := by unfold rkV; rw [show (((k + 1 : Nat) : Int)).toNat = k + 1 from rfl, a6]; rfl
          have hx : 0 ≤ xs[k] ∧ xs[k] < 256 := by rw [allU_iff] at hu; exact hu _ (List.getElem_mem k1)
          have hc1 : c1B ((k + 1 : Nat) : Int) xs = true := pB_iff.2 ⟨k, s.risk, k1, rfl, g2, hu, a6⟩
          have hkf : kOf s.b.s s.b.d = (s.b.s % 2).toNat * 5 + s.b.d.toNat := by unfold kOf; omega
          have hf := hh.fst (s.b.s % 2).toNat s.b.d.toNat (by omega) (by omega)
          rw [← hkf] at hf
          have hsd : ((s.b.s % 2).toNat : Int) = (d + (k : Int)) % 2 := by omega
          rw [hsd, show (s.b.d.toNat : Int) = s.b.d by omega] at hf
          cases hfi : fstI d ((d + (k : Int)) % 2) s.b.d 0 xs with
          | none => rw [hfi] at hf; dsimp only at hf; rw [b5] at hf; cases hf
          | some j =>
            rw [hfi] at hf
            dsimp only at hf
            obtain ⟨⟨_, q1⟩, q2, q3⟩ := fstI_some xs 0 j hfi
            simp only [Nat.sub_zero] at q1 q2 q3
            have hjk : j ≤ k := by
              rcases Nat.lt_or_ge k j with hlt | hge
              · have := q3 k (Nat.zero_le _) hlt
                unfold fCond at this
                rw [a2, b1, ← b3, decide_eq_true rfl, decide_eq_true rfl] at this
                cases this
              · exact hge
            have hc2 : c2B d s.b.d (k : Int) xs = true := pB_iff.2 ⟨j, ⟨hd0, by omega⟩, g2, hu, hfi, by omega, by omega⟩
            have eS : dcV d s.b.d (k : Int) xs = (s.fst (kOf s.b.s s.b.d)).s := by unfold dcV; rw [hfi]; exact hf.2.symm
            rw [k2, atU_at k1, e4, eL, eD, eR, hc1, decide_eq_true hx, lpCd, lpCd, hc2, eS]; rfl
    · rw [decide_eq_false he]; rfl
  obtain ⟨v1, e1, hk, hok⟩ := evalFn_ok orcHK mixed Tryd.func42 (rkL_ok nn) hv
  cases hk
  exact hok.plain rfl rs_ro
end Go.Proofs.YtnhilofmafjdpaaDoor
