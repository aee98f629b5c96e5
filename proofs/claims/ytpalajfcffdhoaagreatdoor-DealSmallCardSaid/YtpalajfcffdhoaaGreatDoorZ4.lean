/- Chapter 6, the reference: Complete: its loop. -/
import Derived.Test.YtpalajfcffdhoaaGreatDoorZ3
import Derived.Test.YtpalajfcffdhoaaGreatDoorZ3
namespace Go.Proofs.YtpalajfcffdhoaaGreatDoor
open Go Go.Eng Go.Deal
noncomputable def otK (s a b c d : Int) : Bool := (in4 a b c d && parB a b c d) && decide (s = 0 ∨ s = 1 ∨ s = 2 ∨ s = 3)
noncomputable def eC : EC := ⟨n6, in4, parB, rgB, leI, wyI, maI, otK, othI, bcK, bcI, onK, onI, kHas, N4.hasB, cdI, N2.intZ, N2.intE, ofK, N2.ofZ, N2.ofE⟩
theorem eCn : eC.n = n6 := rfl
theorem eCck (n k : Int) : eC.ck n k = bcK n k := rfl
theorem eCch (n k : Int) : eC.ch n k = bcI n k := rfl
theorem eConk (k : Int) : eC.onk k = onK k := rfl
theorem eCon (k : Int) : eC.on k = onI k := rfl
theorem tabC6_ok : PTabOk Tryz.prog (tabC6 eC) := by
  refine addTab_ok ?_ (addTab_ok ?_ (addTab_ok ?_ (addTab_ok ?_ (addTab_ok ?_ (addTab_ok ?_ (addTab_ok ?_ (addTab_ok ?_ (addTab_ok ?_ (addTab_ok ?_ (addTab_ok ?_ (addTab_ok ?_ (addTab_ok ?_ (addTab_ok ?_ emptyTab_ok)))))))))))))
  · intro args c v h hc
    unfold cWay at h; split at h
    · cases h; exact rways_p hc
    · cases h
  · intro args c v h hc
    unfold cPar at h; split at h
    · cases h; exact rpar_p hc
    · cases h
  · intro args c v h hc
    unfold cRig at h; split at h
    · cases h; exact rright_p hc
    · cases h
  · intro args c v h hc
    unfold cMa at h; split at h
    · cases h; exact many_p hc
    · cases h
  · intro args c v h hc
    unfold cOt at h; split at h
    · cases h
      have hc : otK _ _ _ _ _ = true := hc
      unfold otK at hc
      simp only [Bool.and_eq_true, decide_eq_true_eq] at hc
      exact roth_p hc.1.1 hc.1.2 hc.2
    · cases h
  · intro args c v h hc
    unfold cCh at h; split at h
    · cases h; exact choose_p hc
    · cases h
  · intro args c v h hc
    unfold cOn at h; split at h
    · cases h; exact one_p hc
    · cases h
  · intro args c v h hc
    unfold cIn at h; split at h
    · cases h; exact N2.rint_p hc
    · cases h
  · intro args c v h hc
    unfold cOf at h; split at h
    · cases h
      have hc : ofK _ = true := hc
      unfold ofK at hc
      rw [decide_eq_true_eq] at hc
      exact N2.rof_p hc
    · cases h
  · intro args c v h hc
    unfold gHas at h; split at h
    · cases h
      have hc : kHas _ _ = true := hc
      unfold kHas at hc
      rw [decide_eq_true_eq] at hc
      exact N4.has_p ⟨hc.1, hc.2.1⟩ hc.2.2.1 hc.2.2.2
    · cases h
  · intro args c v h hc
    unfold gTwo at h; split at h
    · cases h; rw [Bool.and_eq_true] at hc; exact N2.rcmp_p hc.1 hc.2
    · cases h
  · intro args c v h hc
    unfold gTwo at h; split at h
    · cases h; rw [Bool.and_eq_true] at hc; exact N2.rdiv_p hc.1 hc.2
    · cases h
  · intro args c v h hc
    unfold gTwo at h; split at h
    · cases h; rw [Bool.and_eq_true] at hc; exact N2.radd_p hc.1 hc.2
    · cases h
  · intro args c v h hc
    unfold gTwo at h; split at h
    · cases h; rw [Bool.and_eq_true] at hc; exact prod_p hc.1 hc.2
    · cases h
theorem hTabC6_ok : HTabOk Tryz.prog (hTabC6 eC) := by
  refine addH_ok ?_ emptyH_ok
  intro args h c v nb hq hc
  unfold gCd at hq
  split at hq
  · cases hq; exact ⟨.of Tryz.func28 (by kernel_rfl), cards_fn hc⟩
  · cases hq
theorem orcC6_ok : OracleOk Tryz.prog (orcC6 eC) := inl_ok (hOrcP_ok hTabC6_ok) ftab_ok tabC6_ok plainL_ok mixed 20
theorem cl_dl (m : Nat) : ∀ n, cl m n = (dls m n).reverse.map fun x : Nat => (x : Int)
  | 0 => rfl
  | n + 1 => by
    simp only [cl, dls]
    split
    · rw [List.reverse_cons, List.map_append, ← cl_dl m n]; rfl
    · exact cl_dl m n
theorem cl_at {m : Nat} {pre D : List Nat} {p : Nat} (h : dls m 52 = pre ++ p :: D) : (cl m 52)[D.length]? = some (p : Int) := by
  rw [cl_dl, h, List.reverse_append, List.reverse_cons, List.map_append, List.map_append, List.getElem?_append_left (by simp), List.getElem?_append_right (by simp)]
  simp
theorem dls_mem {m : Nat} {pre D : List Nat} {p : Nat} (h : dls m 52 = pre ++ p :: D) : p < 52 ∧ D.length ≤ 51 := by
  have h1 := (dls_lt m 52 p (by rw [h]; simp)).1
  have h2 := dls_len m 52
  have h3 := cnt_le m 52
  rw [h] at h2
  simp at h2
  omega
theorem cm_gen (rd : Option Nat) (m : Nat) (P : Int → Int → Int → Int → List PV) (Q : Int → List PV)
    (H : ∀ k ow i g : Int, cmR eC rd (P k ow i g) = cmF eC k ow i (cl m 52) (fun v => P (wr .i64 (k - 1)) (wr .i64 (ow - eC.ch i k)) (wr .i64 (i - 1)) (wr .u64 (g + eC.on v))) (P k ow (wr .i64 (i - 1)) g) (Q g)) :
    ∀ x : List Nat × Nat × Nat × Nat, ((∃ pre, dls m 52 = pre ++ x.1) ∧ x.2.1 ≤ 13 ∧ x.2.2.1 < 4611686018427387904 ∧ x.2.2.2 + pkR x.1 x.2.1 x.2.2.1 < 9223372036854775808) →
      SimC Tryz.prog 0 rd (.loop cmLp) (cmT.at (P (x.2.1 : Int) (x.2.2.1 : Int) ((x.1.length : Int) - 1) (x.2.2.2 : Int))) (.exit 2) (cmX.at (Q ((x.2.2.2 + pkR x.1 x.2.1 x.2.2.1 : Nat) : Int))) := by
  refine loop_of_rounds (C := orcC6 eC) (L := noLoops) (N := 100) (me := 7) (T := cmT) (T' := cmX) orcC6_ok mixed noLoops_ok (by kernel_rfl) (by kernel_rfl) (X := List Nat × Nat × Nat × Nat)
    (fun x => P (x.2.1 : Int) (x.2.2.1 : Int) ((x.1.length : Int) - 1) (x.2.2.2 : Int)) (fun x => (∃ pre, dls m 52 = pre ++ x.1) ∧ x.2.1 ≤ 13 ∧ x.2.2.1 < 4611686018427387904 ∧ x.2.2.2 + pkR x.1 x.2.1 x.2.2.1 < 9223372036854775808) (fun x => x.1.length)
    (fun x => (.exit 2, Q ((x.2.2.2 + pkR x.1 x.2.1 x.2.2.1 : Nat) : Int))) ?_
  rintro ⟨D, k, ow, g⟩ ⟨⟨pre, hpre⟩, hk, how, hg⟩
  dsimp only at hk how hg hpre ⊢
  have h := H (k : Int) (ow : Int) ((D.length : Int) - 1) (g : Int)
  unfold cmF at h
  cases D with
  | nil =>
    rw [decide_eq_false (show ¬ (0 : Int) ≤ (([] : List Nat).length : Int) - 1 by decide), cond_false] at h
    exact ⟨_, _, _, h, codesNil, .inr ⟨(fun h => by cases h), rfl⟩⟩
  | cons p D =>
    have hlen : ((p :: D).length : Int) - 1 = (D.length : Int) := by simp
    obtain ⟨hp, hD⟩ := dls_mem hpre
    have hL : Int.ofNat (cl m 52).length = ((cnt m 52 : Nat) : Int) := by rw [cl_len]; rfl
    have hL2 : D.length < cnt m 52 := by
      have := dls_len m 52
      rw [hpre] at this
      simp at this
      omega
    rw [hlen] at h ⊢
    rw [decide_eq_true (show (0 : Int) ≤ (D.length : Int) by omega), cond_true] at h
    rcases Nat.eq_zero_or_pos k with rfl | hk0
    · rw [decide_eq_false (show ¬ (0 : Int) < ((0 : Nat) : Int) by decide), cond_false] at h
      exact ⟨_, _, _, h, codesNil, .inr ⟨(fun h => by cases h), rfl⟩⟩
    · have hb := bc_52 (n := D.length) (k := k) (by omega)
      rw [decide_eq_true (show (0 : Int) < (k : Int) by omega), cond_true, eCck, bcK_n k (by omega), cond_true, eCch, bcI_n] at h
      have w1 : wr .i64 ((k : Int) - 1) = ((k - 1 : Nat) : Int) := by rw [wr64 (by omega) (by omega)]; omega
      have w3 : wr .i64 ((D.length : Int) - 1) = (D.length : Int) - 1 := wr64 (by omega) (by omega)
      rw [pkR, if_neg (by omega)] at hg
      by_cases hq : ow < bc D.length k
      · rw [decide_eq_false (show ¬ ((bc D.length k : Nat) : Int) ≤ (ow : Int) by omega), cond_false, w3] at h
        rw [if_pos hq] at hg
        exact ⟨_, _, _, h, codesNil, .inl ⟨rfl, (D, k, ow, g), rfl, ⟨⟨pre ++ [p], by rw [hpre]; simp⟩, hk, how, hg⟩, by dsimp only; simp, by dsimp only; rw [pkR, if_neg (by omega), if_pos hq]⟩⟩
      · rw [if_neg hq] at hg
        have w2 : wr .i64 ((ow : Int) - ((bc D.length k : Nat) : Int)) = ((ow - bc D.length k : Nat) : Int) := by rw [wr64 (by omega) (by omega)]; omega
        have hcl := cl_at hpre
        have w4 : wr .u64 ((g : Int) + onI (p : Int)) = ((g + 2 ^ p : Nat) : Int) := by
          unfold onI
          rw [Int.toNat_natCast, ← Int.natCast_add]
          exact Deal.wrU (by omega)
        rw [decide_eq_true (show ((bc D.length k : Nat) : Int) ≤ (ow : Int) by omega), cond_true, hL, decide_eq_true (show (0 : Int) ≤ (D.length : Int) ∧ (D.length : Int) < ((cnt m 52 : Nat) : Int) by omega), cond_true, Int.toNat_natCast, hcl] at h
        simp only [] at h
        rw [eConk, show onK (p : Int) = true by (unfold onK; rw [decide_eq_true_eq]; omega), cond_true, eCon, w1, w2, w3, w4] at h
        refine ⟨_, _, _, h, codesNil, .inl ⟨rfl, (D, k - 1, ow - bc D.length k, g + 2 ^ p), rfl, ⟨⟨pre ++ [p], by rw [hpre]; simp⟩, by dsimp only; omega, by dsimp only; omega, by dsimp only; omega⟩, by dsimp only; simp, ?_⟩⟩
        dsimp only
        rw [pkR, if_neg (by omega), if_neg hq, Nat.add_assoc]
def cmC (k ow i a b c d : Int) (l : List Int) : Bool := decide ((0 ≤ k ∧ k ≤ 13) ∧ (0 ≤ ow ∧ ow < 4611686018427387904) ∧ i = (l.length : Int) - 1) && (decide ((0 ≤ a ∧ a < 4503599627370496) ∧ (0 ≤ b ∧ b < 4503599627370496) ∧ (0 ≤ c ∧ c < 4503599627370496) ∧ (0 ≤ d ∧ d < 4503599627370496)) && decide (l = cdI a b c d))
def cmG (k ow g : Int) (l : List Int) : Int := g + ((pkR (l.reverse.map Int.toNat) k.toNat ow.toNat : Nat) : Int)
theorem cl_back (m : Nat) : (cl m 52).reverse.map Int.toNat = dls m 52 := by
  rw [cl_dl, ← List.map_reverse, List.reverse_reverse, List.map_map, show (Int.toNat ∘ fun x : Nat => (x : Int)) = id from funext fun x => Int.toNat_natCast x, List.map_id]
theorem cm_of {k ow i a b c d : Int} {l : List Int} (hc : cmC k ow i a b c d l = true) : ∃ (K O A B C D : Nat), k = K ∧ ow = O ∧ a = A ∧ b = B ∧ c = C ∧ d = D ∧ K ≤ 13 ∧ O < 4611686018427387904 ∧ l = cl (lf A B C D) 52 ∧ i = ((dls (lf A B C D) 52).length : Int) - 1 ∧
    (∀ g : Nat, g < 4503599627370496 → cmG k ow (g : Int) l = ((g + pkR (dls (lf A B C D) 52) K O : Nat) : Int) ∧ g + pkR (dls (lf A B C D) 52) K O < 9223372036854775808) ∧ A < 4503599627370496 ∧ B < 4503599627370496 ∧ C < 4503599627370496 ∧ D < 4503599627370496 := by
  unfold cmC at hc
  simp only [Bool.and_eq_true, decide_eq_true_eq] at hc
  obtain ⟨⟨⟨k0, k1⟩, ⟨o0, o1⟩, hi⟩, ⟨⟨a0, a1⟩, ⟨b0, b1⟩, ⟨c0, c1⟩, d0, d1⟩, hl⟩ := hc
  have hl2 : l = cl (lf a.toNat b.toNat c.toNat d.toNat) 52 := hl
  refine ⟨k.toNat, ow.toNat, a.toNat, b.toNat, c.toNat, d.toNat, by omega, by omega, by omega, by omega, by omega, by omega, by omega, by omega, hl2, ?_, fun g hg => ?_, by omega, by omega, by omega, by omega⟩
  · rw [hi, hl2, cl_len, dls_len]
  · have hp := pick_lt (lf a.toNat b.toNat c.toNat d.toNat) 52 k.toNat ow.toNat
    unfold cmG
    rw [hl2, cl_back, pkR_pick]
    have h52 : (2 : Nat) ^ 52 = 4503599627370496 := by decide
    exact ⟨rfl, by omega⟩
section
variable (C : Int → Int → Int → Int → Int → Int → Int → List Int → Bool) (G : Int → Int → Int → List Int → Int)
noncomputable def cmTr : List PV → Fin
  | [.i s, .i k, .i ow, .i i, .i a, .i b, .i c, .i d, .i n0, .i n1, .i n2, .i n3, .i r0, .i r1, .i r2, .i r3, .l l] => .br (C k ow i a b c d l)
      (.br (decide (s = 0)) (.leaf (.exit 2) (cmX.at (cmx 0 (G k ow a l) b c d ⟨n0, n1, n2, n3, r0, r1, r2, r3⟩))) (.br (decide (s = 1)) (.leaf (.exit 2) (cmX.at (cmx 1 a (G k ow b l) c d ⟨n0, n1, n2, n3, r0, r1, r2, r3⟩)))
        (.br (decide (s = 2)) (.leaf (.exit 2) (cmX.at (cmx 2 a b (G k ow c l) d ⟨n0, n1, n2, n3, r0, r1, r2, r3⟩))) (.br (decide (s = 3)) (.leaf (.exit 2) (cmX.at (cmx 3 a b c (G k ow d l) ⟨n0, n1, n2, n3, r0, r1, r2, r3⟩))) .no)))) .no
  | _ => .no
noncomputable def cmL : Loops := sums (fun n => match n with | 15 => some (lsumF 0 cmT cmLp (cmTr C G)) | _ => none)
end
theorem cmL_ok : loopsOk Tryz.prog (cmL cmC cmG) := by
  intro n g hg
  simp only [cmL, sums] at hg
  split at hg
  · cases hg
    refine lsumF_ok (by kernel_rfl) (fun rd ps e1 st1 h => ?_)
    unfold cmTr at h
    split at h
    · rename_i s k ow i a b c d n0 n1 n2 n3 r0 r1 r2 r3 l
      simp only [Fin.pick] at h
      cases hc : cmC k ow i a b c d l with
      | false => rw [hc] at h; cases h
      | true =>
        rw [hc, cond_true] at h
        obtain ⟨K, O, A, B, C, D, rfl, rfl, rfl, rfl, rfl, rfl, hK, hO, hl, rfl, hG, hA, hB, hC, hD⟩ := cm_of hc
        by_cases h0 : s = 0
        · subst h0
          rw [decide_eq_true (show (0 : Int) = 0 from rfl), cond_true] at h
          cases h
          have := cm_gen rd (lf A B C D) (fun k ow i g => cmv 0 k ow i g B C D ⟨n0, n1, n2, n3, r0, r1, r2, r3⟩ l) (fun g => cmx 0 g B C D ⟨n0, n1, n2, n3, r0, r1, r2, r3⟩) (fun k ow i g => by rw [cm_0, hl]) (dls (lf A B C D) 52, K, O, A) ⟨⟨[], rfl⟩, hK, hO, (hG A hA).2⟩
          dsimp only at this
          rw [← (hG A hA).1] at this
          exact this
        rw [decide_eq_false h0, cond_false] at h
        by_cases h1 : s = 1
        · subst h1
          rw [decide_eq_true (show (1 : Int) = 1 from rfl), cond_true] at h
          cases h
          have := cm_gen rd (lf A B C D) (fun k ow i g => cmv 1 k ow i A g C D ⟨n0, n1, n2, n3, r0, r1, r2, r3⟩ l) (fun g => cmx 1 A g C D ⟨n0, n1, n2, n3, r0, r1, r2, r3⟩) (fun k ow i g => by rw [cm_1, hl]) (dls (lf A B C D) 52, K, O, B) ⟨⟨[], rfl⟩, hK, hO, (hG B hB).2⟩
          dsimp only at this
          rw [← (hG B hB).1] at this
          exact this
        rw [decide_eq_false h1, cond_false] at h
        by_cases h2 : s = 2
        · subst h2
          rw [decide_eq_true (show (2 : Int) = 2 from rfl), cond_true] at h
          cases h
          have := cm_gen rd (lf A B C D) (fun k ow i g => cmv 2 k ow i A B g D ⟨n0, n1, n2, n3, r0, r1, r2, r3⟩ l) (fun g => cmx 2 A B g D ⟨n0, n1, n2, n3, r0, r1, r2, r3⟩) (fun k ow i g => by rw [cm_2, hl]) (dls (lf A B C D) 52, K, O, C) ⟨⟨[], rfl⟩, hK, hO, (hG C hC).2⟩
          dsimp only at this
          rw [← (hG C hC).1] at this
          exact this
        rw [decide_eq_false h2, cond_false] at h
        by_cases h3 : s = 3
        · subst h3
          rw [decide_eq_true (show (3 : Int) = 3 from rfl), cond_true] at h
          cases h
          have := cm_gen rd (lf A B C D) (fun k ow i g => cmv 3 k ow i A B C g ⟨n0, n1, n2, n3, r0, r1, r2, r3⟩ l) (fun g => cmx 3 A B C g ⟨n0, n1, n2, n3, r0, r1, r2, r3⟩) (fun k ow i g => by rw [cm_3, hl]) (dls (lf A B C D) 52, K, O, D) ⟨⟨[], rfl⟩, hK, hO, (hG D hD).2⟩
          dsimp only at this
          rw [← (hG D hD).1] at this
          exact this
        rw [decide_eq_false h3, cond_false] at h
        cases h
    · cases h
  · cases hg
end Go.Proofs.YtpalajfcffdhoaaGreatDoor
