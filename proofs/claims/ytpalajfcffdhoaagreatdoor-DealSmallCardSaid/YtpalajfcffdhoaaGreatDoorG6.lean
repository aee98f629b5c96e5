/- Chapter 6: the law DealSmall answers true. -/
import Derived.Test.YtpalajfcffdhoaaGreatDoorG2
import Derived.Test.YtpalajfcffdhoaaGreatDoorG2
import Derived.Test.YtpalajfcffdhoaaGreatDoorG2
import Derived.Test.YtpalajfcffdhoaaGreatDoorG2
namespace Go.Proofs.YtpalajfcffdhoaaGreatDoor
open Go Go.Eng Go.Deal
theorem sm6_all (rd : Option Nat) : ∀ i, i < 24 → okR6 rd i = true
  | 0, _ => sm6_0 rd
  | 1, _ => sm6_1 rd
  | 2, _ => sm6_2 rd
  | 3, _ => sm6_3 rd
  | 4, _ => sm6_4 rd
  | 5, _ => sm6_5 rd
  | 6, _ => sm6_6 rd
  | 7, _ => sm6_7 rd
  | 8, _ => sm6_8 rd
  | 9, _ => sm6_9 rd
  | 10, _ => sm6_10 rd
  | 11, _ => sm6_11 rd
  | 12, _ => sm6_12 rd
  | 13, _ => sm6_13 rd
  | 14, _ => sm6_14 rd
  | 15, _ => sm6_15 rd
  | 16, _ => sm6_16 rd
  | 17, _ => sm6_17 rd
  | 18, _ => sm6_18 rd
  | 19, _ => sm6_19 rd
  | 20, _ => sm6_20 rd
  | 21, _ => sm6_21 rd
  | 22, _ => sm6_22 rd
  | 23, _ => sm6_23 rd
  | n + 24, h => by omega
theorem sm1_loop (rd : Option Nat) : ∀ c : Nat, c ≤ 56 → SimC Tryz.prog 0 rd (.loop smLp1) (smT1.at [.i (c : Int)]) (.exit 0) (smX.at []) := by
  refine loop_of_rounds (C := orcSm gL) (L := noLoops) (N := 100) (me := 3) (T := smT1) (T' := smX) orcSm_ok mixed noLoops_ok (by kernel_rfl) (by kernel_rfl) (X := Nat)
    (fun c => [.i (c : Int)]) (fun c => c ≤ 56) (fun c => 56 - c) (fun _ => (.exit 0, [])) ?_
  intro c hc
  by_cases h : c < 56
  · exact ⟨_, _, _, okR1_is (List.all_eq_true.1 (sm1_all rd) c (List.mem_range.2 h)), N4.codes0, .inl ⟨rfl, c + 1, rfl, by omega, by omega, rfl⟩⟩
  · obtain rfl : c = 56 := by omega
    exact ⟨_, _, _, sm1_end rd, N4.codes0, .inr ⟨by simp, rfl⟩⟩
theorem sm6_loop (rd : Option Nat) : ∀ i : Nat, i ≤ 24 → SimC Tryz.prog 0 rd (.loop smLp6) (smT6.at [.s sL, .i ((3 * i : Nat) : Int)]) (.exit 10) (smX6.at []) := by
  refine loop_of_rounds (C := orcSm gL) (L := noLoops) (N := 100) (me := 3) (T := smT6) (T' := smX6) orcSm_ok mixed noLoops_ok (by kernel_rfl) (by kernel_rfl) (X := Nat)
    (fun i => [.s sL, .i ((3 * i : Nat) : Int)]) (fun i => i ≤ 24) (fun i => 24 - i) (fun _ => (.exit 10, [])) ?_
  intro i hi
  by_cases h : i < 24
  · exact ⟨_, _, _, okR6_is (sm6_all rd i h), N4.codes0, .inl ⟨rfl, i + 1, rfl, by omega, by omega, rfl⟩⟩
  · obtain rfl : i = 24 := by omega
    exact ⟨_, _, _, sm6_end rd, N4.codes0, .inr ⟨by simp, rfl⟩⟩
noncomputable def smC (_ m n : Int) (p : DQ) : Bool := pB (n = 0 ∧ 0 ≤ m ∧ m ≤ 100 ∧ ∃ a b c d : Nat, p = DQ.n a b c d ∧ PartD a b c d)
theorem gL_U (q : DQ) : gL.U q = in4 q.a q.b q.c q.d := by unfold GL.U; rw [gLu]
theorem inn_lit {n j : Int} (h0 : 0 ≤ n) (h1 : n < 4294967296) (hj : j = 0 ∨ j = 1) : gL.n.inn n j 0 0 = true := by
  show N2.inN n j 0 0 = true
  refine N2.inN_iff.2 ⟨⟨h0, h1⟩, ?_, by omega, by omega⟩
  rcases hj with rfl | rfl <;> omega
theorem cpl_in {a b c d : Nat} (P : PartD a b c d) {z : Int} (hz : 0 ≤ z) : gL.U (gL.C (DQ.n a b c d) z) = true := by
  rw [gL_U]
  have e0 : (gL.C (DQ.n a b c d) z).a = cp0 (a : Int) b c d z := rfl
  have e1 : (gL.C (DQ.n a b c d) z).b = cp1 (a : Int) b c d z := rfl
  have e2 : (gL.C (DQ.n a b c d) z).c = cp2 (a : Int) b c d z := rfl
  have e3 : (gL.C (DQ.n a b c d) z).d = cp3 (a : Int) b c d z := rfl
  rw [e0, e1, e2, e3]
  unfold cp0 cp1 cp2 cp3
  cases hb : cpB (a : Int) b c d z with
  | false => exact in0
  | true =>
    unfold cpB at hb
    rw [Bool.and_eq_true, decide_eq_true_eq] at hb
    have hw : z < ((wy (lks a b c d) : Nat) : Int) := hb.2
    obtain ⟨g0, g1, g2, g3, _, hg, _, _, E⟩ := cp_ok P (n := z.toNat) (by omega)
    obtain ⟨s0, _, s1, _, s2, _, s3, _, _⟩ := hg
    have hl := P.lf_lt
    have t0 := sub_lt s0 hl
    have t1 := sub_lt (s1.trans (nd_sub _ _)) hl
    have t2 := sub_lt (s2.trans ((nd_sub _ _).trans (nd_sub _ _))) hl
    have t3 := sub_lt (s3.trans ((nd_sub _ _).trans ((nd_sub _ _).trans (nd_sub _ _)))) hl
    rw [cond_true, cond_true, cond_true, cond_true, Int.toNat_natCast, Int.toNat_natCast, Int.toNat_natCast, Int.toNat_natCast, E]
    exact in4_lt (or_lt (n := 52) P.la t0) (or_lt (n := 52) P.lb t1) (or_lt (n := 52) P.lc t2) (or_lt (n := 52) P.ld t3)
theorem z_pos {n : Int} (h : 0 ≤ n) : 0 ≤ gL.n.z n 0 0 0 := by
  show 0 ≤ N2.nval n 0 0 0
  unfold N2.nval
  omega
theorem sm5_loop (rd : Option Nat) (k m : Int) (hm : 0 ≤ m ∧ m ≤ 100) {a b c d : Nat} (P : PartD a b c d) : ∀ n : Nat, (n : Int) ≤ m → SimC Tryz.prog 0 rd (.loop smLp5) (smT5.at (smP5 k m (n : Int) (DQ.n a b c d))) (.exit 8) (smT3.at [.i k]) := by
  refine loop_of_rounds (C := orcSm gL) (L := noLoops) (N := 100) (me := 3) (T := smT5) (T' := smT3) orcSm_ok mixed noLoops_ok (by kernel_rfl) (by kernel_rfl) (X := Nat)
    (fun n => smP5 k m (n : Int) (DQ.n a b c d)) (fun n => (n : Int) ≤ m) (fun n => m.toNat - n) (fun _ => (.exit 8, [.i k])) ?_
  intro n hn
  have h := sm5_round gL rd k m (n : Int) (DQ.n a b c d)
  have hU : gL.U (DQ.n a b c d) = true := by rw [gL_U]; exact in4_lt P.la P.lb P.lc P.ld
  have hD : gL.U dQ = true := by
    rw [gL_U]
    have Q := parB_iff.1 (parK_ok k9)
    exact in4_lt Q.la Q.lb Q.lc Q.ld
  by_cases hlt : (n : Int) < m
  · rw [decide_eq_true hlt, hU, hD, cpl_in P (z_pos (by omega)), inn_lit (by omega) (by omega) (.inl rfl), inn_lit (by omega) (by omega) (.inr rfl)] at h
    have w : wr .u32 ((n : Int) + 1) = ((n + 1 : Nat) : Int) := by simp only [wr]; omega
    rw [w] at h
    exact ⟨_, _, _, h, N4.codes0, .inl ⟨rfl, n + 1, rfl, by omega, by omega, rfl⟩⟩
  · rw [decide_eq_false hlt] at h
    exact ⟨_, _, _, h, N4.codes0, .inr ⟨by simp, rfl⟩⟩
theorem sm5L_ok : loopsOk Tryz.prog (sm5L smC) := by
  intro n g hg
  simp only [sm5L, sums] at hg
  split at hg
  · cases hg
    refine lsumF_ok (by kernel_rfl) (fun rd ps e1 s1 h => ?_)
    unfold sm5Tr at h
    split at h
    · rename_i k m n a b c d
      simp only [Fin.pick] at h
      cases hc : smC k m n ⟨a, b, c, d⟩ with
      | false => rw [hc] at h; cases h
      | true =>
        rw [hc, cond_true] at h
        obtain ⟨rfl, h1, h2, a', b', c', d', hq, P⟩ := pB_iff.1 hc
        cases hq
        cases h
        exact sm5_loop rd k m ⟨h1, h2⟩ P 0 h1
    · cases h
  · cases hg
theorem smC_lit {k m : Int} {a b c d : Nat} (h : parK a b c d = true) (hm : 0 ≤ m ∧ m ≤ 100) : smC k m 0 (DQ.n a b c d) = true := pB_iff.2 ⟨rfl, hm.1, hm.2, a, b, c, d, rfl, parB_iff.1 (parK_ok h)⟩
theorem codes5 : codesB [(smLp5, smLp5)] = true := by rw [codesB_iff]; intro x hx; simp at hx; rw [hx]
theorem sm3_all (rd : Option Nat) : ∀ k : Nat, k < 8 → roundT Tryz.prog (orcSm gL) (sm5L smC) 100 0 rd 3 smLp3 smT3 smX [.i (k : Int)] = some (.normal, [.i ((k + 1 : Nat) : Int)], [])
  | 0, _ => by
    have h := sm3_0 gL smC rd
    rw [codes5, cond_true, show smC 0 26 0 ⟨8190, 67035136, 545393737728, 4221574894845952⟩ = true from smC_lit (a := 8190) (b := 67035136) (c := 545393737728) (d := 4221574894845952) (by kernel_rfl) (by omega), cond_true] at h
    exact h
  | 1, _ => by
    have h := sm3_1 gL smC rd
    rw [codes5, cond_true, show smC 1 8 0 ⟨8191, 66035712, 549688705024, 3931303825113088⟩ = true from smC_lit (a := 8191) (b := 66035712) (c := 549688705024) (d := 3931303825113088) (by kernel_rfl) (by omega), cond_true] at h
    exact h
  | 2, _ => by
    have h := sm3_2 gL smC rd
    rw [codes5, cond_true, show smC 2 26 0 ⟨8127, 67035136, 549621596160, 4221574894845952⟩ = true from smC_lit (a := 8127) (b := 67035136) (c := 549621596160) (d := 4221574894845952) (by kernel_rfl) (by omega), cond_true] at h
    exact h
  | 3, _ => by
    have h := sm3_3 gL smC rd
    rw [codes5, cond_true, show smC 3 26 0 ⟨8175, 66052096, 480969228288, 4501950359928832⟩ = true from smC_lit (a := 8175) (b := 66052096) (c := 480969228288) (d := 4501950359928832) (by kernel_rfl) (by omega), cond_true] at h
    exact h
  | 4, _ => by
    have h := sm3_4 gL smC rd
    rw [codes5, cond_true, show smC 4 8 0 ⟨8126, 67100672, 514792095744, 4503049871556608⟩ = true from smC_lit (a := 8126) (b := 67100672) (c := 514792095744) (d := 4503049871556608) (by kernel_rfl) (by omega), cond_true] at h
    exact h
  | 5, _ => by
    have h := sm3_5 gL smC rd
    rw [codes5, cond_true, show smC 5 26 0 ⟨8175, 67084288, 480969228288, 4432681127378944⟩ = true from smC_lit (a := 8175) (b := 67084288) (c := 480969228288) (d := 4432681127378944) (by kernel_rfl) (by omega), cond_true] at h
    exact h
  | 6, _ => by
    have h := sm3_6 gL smC rd
    rw [codes5, cond_true, show smC 6 26 0 ⟨8127, 62906368, 549621596160, 4498651825045504⟩ = true from smC_lit (a := 8127) (b := 62906368) (c := 549621596160) (d := 4498651825045504) (by kernel_rfl) (by omega), cond_true] at h
    exact h
  | 7, _ => by
    have h := sm3_7 gL smC rd
    rw [codes5, cond_true, show smC 7 8 0 ⟨8191, 58580992, 549688705024, 4431581615751168⟩ = true from smC_lit (a := 8191) (b := 58580992) (c := 549688705024) (d := 4431581615751168) (by kernel_rfl) (by omega), cond_true] at h
    exact h
  | n + 8, h => by omega
theorem sm3_loop (rd : Option Nat) : ∀ k : Nat, k ≤ 8 → SimC Tryz.prog 0 rd (.loop smLp3) (smT3.at [.i (k : Int)]) (.exit 4) (smX.at []) := by
  refine loop_of_rounds (C := orcSm gL) (L := sm5L smC) (N := 100) (me := 3) (T := smT3) (T' := smX) orcSm_ok mixed sm5L_ok (by kernel_rfl) (by kernel_rfl) (X := Nat)
    (fun k => [.i (k : Int)]) (fun k => k ≤ 8) (fun k => 8 - k) (fun _ => (.exit 4, [])) ?_
  intro k hk
  by_cases h : k < 8
  · exact ⟨_, _, _, sm3_all rd k h, N4.codes0, .inl ⟨rfl, k + 1, rfl, by omega, by omega, rfl⟩⟩
  · obtain rfl : k = 8 := by omega
    exact ⟨_, _, _, sm3_8 gL smC rd, N4.codes0, .inr ⟨by simp, rfl⟩⟩
def smTr1 : List PV → Fin
  | [.i c] => .br (decide (c = 0)) (.leaf (.exit 0) (smX.at [])) .no
  | _ => .no
def smTr3 : List PV → Fin
  | [.i c] => .br (decide (c = 0)) (.leaf (.exit 4) (smX.at [])) .no
  | _ => .no
def smTr6 : List PV → Fin
  | [.s s, .i c] => .br (strEq s sL && decide (c = 0)) (.leaf (.exit 10) (smX6.at [])) .no
  | _ => .no
noncomputable def smL : Loops := sums (fun n => match n with | 3 => some (lsumF 0 smT1 smLp1 smTr1) | 16 => some (lsumF 0 smT3 smLp3 smTr3) | 39 => some (lsumF 0 smT6 smLp6 smTr6) | _ => none)
theorem smL_ok : loopsOk Tryz.prog smL := by
  intro n g hg
  simp only [smL, sums] at hg
  split at hg
  · cases hg
    refine lsumF_ok (by kernel_rfl) (fun rd ps e1 s1 h => ?_)
    unfold smTr1 at h
    split at h
    · rename_i c
      simp only [Fin.pick] at h
      cases hc : decide (c = 0) with
      | false => rw [hc] at h; cases h
      | true =>
        rw [hc, cond_true] at h
        obtain rfl := of_decide_eq_true hc
        cases h
        exact sm1_loop rd 0 (by omega)
    · cases h
  · cases hg
    refine lsumF_ok (by kernel_rfl) (fun rd ps e1 s1 h => ?_)
    unfold smTr3 at h
    split at h
    · rename_i c
      simp only [Fin.pick] at h
      cases hc : decide (c = 0) with
      | false => rw [hc] at h; cases h
      | true =>
        rw [hc, cond_true] at h
        obtain rfl := of_decide_eq_true hc
        cases h
        exact sm3_loop rd 0 (by omega)
    · cases h
  · cases hg
    refine lsumF_ok (by kernel_rfl) (fun rd ps e1 s1 h => ?_)
    unfold smTr6 at h
    split at h
    · rename_i s c
      simp only [Fin.pick] at h
      cases hc : (strEq s sL && decide (c = 0)) with
      | false => rw [hc] at h; cases h
      | true =>
        rw [hc, cond_true] at h
        rw [Bool.and_eq_true, strEq_iff, decide_eq_true_eq] at hc
        obtain ⟨rfl, rfl⟩ := hc
        cases h
        exact sm6_loop rd 0 (by omega)
    · cases h
  · cases hg
theorem small_eval : evalFn Tryz.prog (orcSm gL) smL 100 3 Tryz.f3 [] [] (fun v _ => some v) = cond (codesB [(smLp1, smLp1)]) (cond (codesB [(smLp3, smLp3)]) (cond (codesB [(smLp6, smLp6)]) (some (.bool true)) none) none) none := by kernel_rfl
theorem small_true : evalFn Tryz.prog (orcSm gL) smL 100 3 Tryz.f3 [] [] (fun v _ => some v) = some (.bool true) := by
  rw [small_eval, show codesB [(smLp1, smLp1)] = true by rw [codesB_iff]; intro x hx; simp at hx; rw [hx], show codesB [(smLp3, smLp3)] = true by rw [codesB_iff]; intro x hx; simp at hx; rw [hx], show codesB [(smLp6, smLp6)] = true by rw [codesB_iff]; intro x hx; simp at hx; rw [hx]]; rfl
end Go.Proofs.YtpalajfcffdhoaaGreatDoor
