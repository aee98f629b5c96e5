/- Texts merged: Z7, Z8. -/
import Derived.Test.YtpalajfcffdhoaaGreatDoorZ5
import Derived.Test.YtpalajfcffdhoaaGreatDoorIndP
/- Chapter 6, the reference: Index: its rounds. -/
namespace Go.Proofs.YtpalajfcffdhoaaGreatDoor
open Go Go.Eng Go.Deal
noncomputable def ckLp : Code := loopOf 4 Tryz.f36
def ckT : Tm := ⟨mkS [(2, .ptr 0 0), (3, .ptr 1 0), (4, .ptr 2 0), (5, .int .i64), (6, .int .i64)] 0 113, [.own 23 u64s, .own 23 u64s, .own 28 u32s], []⟩
def ckX : Tm := ⟨mkS [(2, .ptr 0 0), (3, .ptr 1 0), (4, .ptr 2 0), (5, .int .i64)] 0 113, [.own 23 u64s, .own 23 u64s, .own 28 u32s], []⟩
def ckw (a b c d x y z w r0 r1 r2 r3 : Int) : List PV := [.i a, .i b, .i c, .i d, .i x, .i y, .i z, .i w, .i r0, .i r1, .i r2, .i r3]
def ckK (E : EC) (p x k : Int) (R K : RZ) : RZ := bif E.hk p k then bif E.hs p k then bif E.hk x k then bif !E.hs x k then R else K else none else K else none
section
variable (E : EC) (rd : Option Nat)
theorem ck_round (e k a b c d x y z w r0 r1 r2 r3 : Int) : roundT Tryz.prog (orcC6 E) noLoops 100 0 rd 36 ckLp ckT ckX (.i e :: .i k :: ckw a b c d x y z w r0 r1 r2 r3) =
    bif decide (k < 52) then ckK E a x k (some (.ret, .i 6 :: ckw a b c d x y z w 0 0 0 0, [])) (ckK E b y k (some (.ret, .i 6 :: ckw a b c d x y z w 0 0 0 0, [])) (ckK E c z k (some (.ret, .i 6 :: ckw a b c d x y z w 0 0 0 0, [])) (ckK E d w k (some (.ret, .i 6 :: ckw a b c d x y z w 0 0 0 0, []))
      (some (.normal, .i e :: .i (wr .i64 (k + 1)) :: ckw a b c d x y z w r0 r1 r2 r3, []))))) else some (.exit 0, .i e :: ckw a b c d x y z w r0 r1 r2 r3, []) := by kernel_rfl
variable (k ow i a b c d : Int) (q : N12) (l : List Int)
def ixF (k i : Int) (l : List Int) (h : Int) (T : Int → List PV) (S X : List PV) : RZ :=
  bif decide (0 ≤ i) then bif decide (0 < k) then bif decide (0 ≤ i ∧ i < Int.ofNat l.length) then (match l[i.toNat]? with
    | some v => bif E.hk h v then bif E.hs h v then bif E.ck i k then bif decide (0 ≤ i ∧ i < Int.ofNat l.length) then (match l[i.toNat]? with
        | some v => bif E.onk v then some (.normal, T v, []) else none
        | none => none) else none else none else some (.normal, S, []) else none
    | none => none) else none else some (.exit 6, X, []) else some (.exit 6, X, [])
theorem ix_0 : ixR E rd (ixv 0 k ow i a b c d q l) = ixF E k i l q.x (fun v => ixv 0 (wr .i64 (k - 1)) (wr .i64 (ow + E.ch i k)) (wr .i64 (i - 1)) (wr .u64 (a + E.on v)) b c d q l) (ixv 0 k ow (wr .i64 (i - 1)) a b c d q l) (ixx 0 ow a b c d q) := by kernel_rfl
theorem ix_1 : ixR E rd (ixv 1 k ow i a b c d q l) = ixF E k i l q.y (fun v => ixv 1 (wr .i64 (k - 1)) (wr .i64 (ow + E.ch i k)) (wr .i64 (i - 1)) a (wr .u64 (b + E.on v)) c d q l) (ixv 1 k ow (wr .i64 (i - 1)) a b c d q l) (ixx 1 ow a b c d q) := by kernel_rfl
theorem ix_2 : ixR E rd (ixv 2 k ow i a b c d q l) = ixF E k i l q.z (fun v => ixv 2 (wr .i64 (k - 1)) (wr .i64 (ow + E.ch i k)) (wr .i64 (i - 1)) a b (wr .u64 (c + E.on v)) d q l) (ixv 2 k ow (wr .i64 (i - 1)) a b c d q l) (ixx 2 ow a b c d q) := by kernel_rfl
theorem ix_3 : ixR E rd (ixv 3 k ow i a b c d q l) = ixF E k i l q.w (fun v => ixv 3 (wr .i64 (k - 1)) (wr .i64 (ow + E.ch i k)) (wr .i64 (i - 1)) a b c (wr .u64 (d + E.on v)) q l) (ixv 3 k ow (wr .i64 (i - 1)) a b c d q l) (ixx 3 ow a b c d q) := by kernel_rfl
end
end Go.Proofs.YtpalajfcffdhoaaGreatDoor

/- Chapter 6, the reference: Index: its loops. -/
namespace Go.Proofs.YtpalajfcffdhoaaGreatDoor
open Go Go.Eng Go.Deal
theorem eChk (a k : Int) : eC.hk a k = kHas a k := rfl
theorem eChs (a k : Int) : eC.hs a k = N4.hasB a k := rfl
theorem ckK_is {a x k : Nat} (ha : a < 18446744073709551616) (hx : x < 18446744073709551616) (hk : k ≤ 1000) (R K : RZ) : ckK eC (a : Int) (x : Int) (k : Int) R K = if a.testBit k = true ∧ x.testBit k = false then R else K := by
  unfold ckK
  rw [eChk, eChk, kHas_n ha hk, kHas_n hx hk, eChs, eChs, hasB_n, hasB_n]
  cases a.testBit k <;> cases x.testBit k <;> rfl
structure Q8 where
  a : Nat
  b : Nat
  c : Nat
  d : Nat
  x : Nat
  y : Nat
  z : Nat
  w : Nat
structure Q8.Lt (q : Q8) : Prop where
  a : q.a < 2 ^ 52
  b : q.b < 2 ^ 52
  c : q.c < 2 ^ 52
  d : q.d < 2 ^ 52
  x : q.x < 2 ^ 52
  y : q.y < 2 ^ 52
  z : q.z < 2 ^ 52
  w : q.w < 2 ^ 52
def Q8.pv (q : Q8) (r0 r1 r2 r3 : Int) : List PV := ckw q.a q.b q.c q.d q.x q.y q.z q.w r0 r1 r2 r3
open Classical in
noncomputable def ckFin (q : Q8) (e r0 r1 r2 r3 : Int) : XE × List PV := if Sub q.a q.x ∧ Sub q.b q.y ∧ Sub q.c q.z ∧ Sub q.d q.w then (.exit 0, .i e :: q.pv r0 r1 r2 r3) else (.ret, .i 6 :: q.pv 0 0 0 0)
theorem sub_all {a x : Nat} (ha : a < 2 ^ 52) (h : ∀ i, i < 52 → a.testBit i = true → x.testBit i = true) : Sub a x := fun i hi => by
  rcases Nat.lt_or_ge i 52 with h' | h'
  · exact h i h' hi
  · rw [bit_lt ha h'] at hi; cases hi
theorem ck_loop (rd : Option Nat) (q : Q8) (hq : q.Lt) (e r0 r1 r2 r3 : Int) : ∀ k : Nat, (k ≤ 52 ∧ ∀ i, i < k → (q.a.testBit i = true → q.x.testBit i = true) ∧ (q.b.testBit i = true → q.y.testBit i = true) ∧ (q.c.testBit i = true → q.z.testBit i = true) ∧ (q.d.testBit i = true → q.w.testBit i = true)) →
    SimC Tryz.prog 0 rd (.loop ckLp) (ckT.at (.i e :: .i (k : Int) :: q.pv r0 r1 r2 r3)) (ckFin q e r0 r1 r2 r3).1 (ckX.at (ckFin q e r0 r1 r2 r3).2) := by
  refine loop_of_rounds (C := orcC6 eC) (L := noLoops) (N := 100) (me := 36) (T := ckT) (T' := ckX) orcC6_ok mixed noLoops_ok (by kernel_rfl) (by kernel_rfl) (X := Nat)
    (fun k => .i e :: .i (k : Int) :: q.pv r0 r1 r2 r3) (fun k => k ≤ 52 ∧ ∀ i, i < k → (q.a.testBit i = true → q.x.testBit i = true) ∧ (q.b.testBit i = true → q.y.testBit i = true) ∧ (q.c.testBit i = true → q.z.testBit i = true) ∧ (q.d.testBit i = true → q.w.testBit i = true)) (fun k => 52 - k) (fun _ => ckFin q e r0 r1 r2 r3) ?_
  rintro k ⟨hk, H⟩
  have h := ck_round eC rd e (k : Int) q.a q.b q.c q.d q.x q.y q.z q.w r0 r1 r2 r3
  have l : ∀ {x : Nat}, x < 2 ^ 52 → x < 18446744073709551616 := fun h => lt64 h
  by_cases hlt : k < 52
  · rw [decide_eq_true (show (k : Int) < 52 by omega), cond_true, ckK_is (l hq.a) (l hq.x) (by omega), ckK_is (l hq.b) (l hq.y) (by omega), ckK_is (l hq.c) (l hq.z) (by omega), ckK_is (l hq.d) (l hq.w) (by omega), wr64 (x := (k : Int) + 1) (by omega) (by omega)] at h
    have bad : ∀ {a x : Nat}, a.testBit k = true ∧ x.testBit k = false → ¬ Sub a x := fun hb hs => by have := hs k hb.1; rw [hb.2] at this; cases this
    have out : ¬ (Sub q.a q.x ∧ Sub q.b q.y ∧ Sub q.c q.z ∧ Sub q.d q.w) → (XE.ret, PV.i 6 :: q.pv 0 0 0 0) = ckFin q e r0 r1 r2 r3 := fun hn => by unfold ckFin; rw [if_neg hn]
    by_cases g1 : q.a.testBit k = true ∧ q.x.testBit k = false
    · rw [if_pos g1] at h
      exact ⟨_, _, _, h, codesNil, .inr ⟨(fun h => by cases h), out fun hn => bad g1 hn.1⟩⟩
    by_cases g2 : q.b.testBit k = true ∧ q.y.testBit k = false
    · rw [if_neg g1, if_pos g2] at h
      exact ⟨_, _, _, h, codesNil, .inr ⟨(fun h => by cases h), out fun hn => bad g2 hn.2.1⟩⟩
    by_cases g3 : q.c.testBit k = true ∧ q.z.testBit k = false
    · rw [if_neg g1, if_neg g2, if_pos g3] at h
      exact ⟨_, _, _, h, codesNil, .inr ⟨(fun h => by cases h), out fun hn => bad g3 hn.2.2.1⟩⟩
    by_cases g4 : q.d.testBit k = true ∧ q.w.testBit k = false
    · rw [if_neg g1, if_neg g2, if_neg g3, if_pos g4] at h
      exact ⟨_, _, _, h, codesNil, .inr ⟨(fun h => by cases h), out fun hn => bad g4 hn.2.2.2⟩⟩
    rw [if_neg g1, if_neg g2, if_neg g3, if_neg g4] at h
    have good : ∀ {a x : Nat}, ¬ (a.testBit k = true ∧ x.testBit k = false) → a.testBit k = true → x.testBit k = true := fun {a x} hb ha => by
      cases hx : x.testBit k with
      | true => rfl
      | false => exact absurd ⟨ha, hx⟩ hb
    refine ⟨_, _, _, h, codesNil, .inl ⟨rfl, k + 1, rfl, ⟨by omega, fun i hi => ?_⟩, by omega, rfl⟩⟩
    by_cases hik : i = k
    · subst hik; exact ⟨good g1, good g2, good g3, good g4⟩
    · exact H i (by omega)
  · have hk52 : k = 52 := by omega
    subst hk52
    rw [decide_eq_false (show ¬ ((52 : Nat) : Int) < 52 by decide), cond_false] at h
    refine ⟨_, _, _, h, codesNil, .inr ⟨(fun h => by cases h), ?_⟩⟩
    unfold ckFin
    rw [if_pos ⟨sub_all hq.a fun i hi => (H i hi).1, sub_all hq.b fun i hi => (H i hi).2.1, sub_all hq.c fun i hi => (H i hi).2.2.1, sub_all hq.d fun i hi => (H i hi).2.2.2⟩]
    rfl
theorem rkR_le (g : Nat) : ∀ (D : List Nat) (k : Nat), D.length ≤ 52 → rkR g D k ≤ D.length * 4503599627370497
  | [], k, _ => by (have h0 : rkR g [] k = 0 := rfl); omega
  | p :: D, k, h => by
    have h1 := rkR_le g D (k - 1) (by simp at h; omega)
    have h2 := rkR_le g D k (by simp at h; omega)
    have hb := bc_52 (n := D.length) (k := k) (by simp at h; omega)
    rw [rkR, List.length_cons, Nat.add_mul, Nat.one_mul]
    generalize D.length * 4503599627370497 = M at *
    by_cases k0 : k = 0
    · rw [if_pos k0]; exact Nat.zero_le _
    · rw [if_neg k0]
      by_cases kb : g.testBit p = true
      · rw [if_pos kb]; omega
      · rw [if_neg kb]; omega
theorem gpR_le (g : Nat) : ∀ (D : List Nat) (k : Nat), (∀ p ∈ D, p < 52) → gpR g D k ≤ D.length * 4503599627370496
  | [], k, _ => by (have h0 : gpR g [] k = 0 := rfl); omega
  | p :: D, k, h => by
    have h1 := gpR_le g D (k - 1) (fun x hx => h x (by simp [hx]))
    have h2 := gpR_le g D k (fun x hx => h x (by simp [hx]))
    have hp : 2 ^ p ≤ 2 ^ 52 := Nat.pow_le_pow_right (by decide) (Nat.le_of_lt (h p (by simp)))
    have h52 : (2 : Nat) ^ 52 = 4503599627370496 := by decide
    rw [gpR, List.length_cons, Nat.add_mul, Nat.one_mul]
    generalize D.length * 4503599627370496 = M at *
    by_cases k0 : k = 0
    · rw [if_pos k0]; exact Nat.zero_le _
    · rw [if_neg k0]
      by_cases kb : g.testBit p = true
      · rw [if_pos kb]; omega
      · rw [if_neg kb]; omega
theorem ix_gen (rd : Option Nat) (m h : Nat) (hh : h < 18446744073709551616) (P : Int → Int → Int → Int → List PV) (Q : Int → Int → List PV)
    (H : ∀ k ow i g : Int, ixR eC rd (P k ow i g) = ixF eC k i (cl m 52) (h : Int) (fun v => P (wr .i64 (k - 1)) (wr .i64 (ow + eC.ch i k)) (wr .i64 (i - 1)) (wr .u64 (g + eC.on v))) (P k ow (wr .i64 (i - 1)) g) (Q ow g)) :
    ∀ x : List Nat × Nat × Nat × Nat, ((∃ pre, dls m 52 = pre ++ x.1) ∧ x.2.1 ≤ 13 ∧ x.2.2.1 + rkR h x.1 x.2.1 < 4611686018427387904 ∧ x.2.2.2 + gpR h x.1 x.2.1 < 9223372036854775808) →
      SimC Tryz.prog 0 rd (.loop ixLp) (ixT.at (P (x.2.1 : Int) (x.2.2.1 : Int) ((x.1.length : Int) - 1) (x.2.2.2 : Int))) (.exit 6) (ixX.at (Q ((x.2.2.1 + rkR h x.1 x.2.1 : Nat) : Int) ((x.2.2.2 + gpR h x.1 x.2.1 : Nat) : Int))) := by
  refine loop_of_rounds (C := orcC6 eC) (L := noLoops) (N := 100) (me := 36) (T := ixT) (T' := ixX) orcC6_ok mixed noLoops_ok (by kernel_rfl) (by kernel_rfl) (X := List Nat × Nat × Nat × Nat)
    (fun x => P (x.2.1 : Int) (x.2.2.1 : Int) ((x.1.length : Int) - 1) (x.2.2.2 : Int)) (fun x => (∃ pre, dls m 52 = pre ++ x.1) ∧ x.2.1 ≤ 13 ∧ x.2.2.1 + rkR h x.1 x.2.1 < 4611686018427387904 ∧ x.2.2.2 + gpR h x.1 x.2.1 < 9223372036854775808) (fun x => x.1.length)
    (fun x => (.exit 6, Q ((x.2.2.1 + rkR h x.1 x.2.1 : Nat) : Int) ((x.2.2.2 + gpR h x.1 x.2.1 : Nat) : Int))) ?_
  rintro ⟨D, k, ow, g⟩ ⟨⟨pre, hpre⟩, hk, how, hg⟩
  dsimp only at hk how hg hpre ⊢
  have h' := H (k : Int) (ow : Int) ((D.length : Int) - 1) (g : Int)
  unfold ixF at h'
  cases D with
  | nil =>
    rw [decide_eq_false (show ¬ (0 : Int) ≤ (([] : List Nat).length : Int) - 1 by decide), cond_false] at h'
    exact ⟨_, _, _, h', codesNil, .inr ⟨(fun h => by cases h), rfl⟩⟩
  | cons p D =>
    have hlen : ((p :: D).length : Int) - 1 = (D.length : Int) := by simp
    obtain ⟨hp, hD⟩ := dls_mem hpre
    have hL : Int.ofNat (cl m 52).length = ((cnt m 52 : Nat) : Int) := by rw [cl_len]; rfl
    have hL2 : D.length < cnt m 52 := by
      have := dls_len m 52
      rw [hpre] at this
      simp at this
      omega
    rw [hlen] at h' ⊢
    rw [decide_eq_true (show (0 : Int) ≤ (D.length : Int) by omega), cond_true] at h'
    rcases Nat.eq_zero_or_pos k with rfl | hk0
    · rw [decide_eq_false (show ¬ (0 : Int) < ((0 : Nat) : Int) by decide), cond_false] at h'
      exact ⟨_, _, _, h', codesNil, .inr ⟨(fun h => by cases h), rfl⟩⟩
    · have hcl := cl_at hpre
      have w3 : wr .i64 ((D.length : Int) - 1) = (D.length : Int) - 1 := wr64 (by omega) (by omega)
      have dix : decide ((0 : Int) ≤ (D.length : Int) ∧ (D.length : Int) < ((cnt m 52 : Nat) : Int)) = true := decide_eq_true (by omega)
      rw [decide_eq_true (show (0 : Int) < (k : Int) by omega), cond_true, hL, dix, cond_true, Int.toNat_natCast, hcl] at h'
      simp only [] at h'
      rw [eChk, kHas_n hh (by omega), cond_true, eChs, hasB_n, w3] at h'
      rw [rkR, if_neg (by omega)] at how
      rw [gpR, if_neg (by omega)] at hg
      have sfx : ∃ pre', dls m 52 = pre' ++ D := ⟨pre ++ [p], by rw [hpre]; simp⟩
      by_cases hb : h.testBit p = true
      · rw [if_pos hb] at how hg
        have w1 : wr .i64 ((k : Int) - 1) = ((k - 1 : Nat) : Int) := by rw [wr64 (by omega) (by omega)]; omega
        have w2 : wr .i64 ((ow : Int) + ((bc D.length k : Nat) : Int)) = ((ow + bc D.length k : Nat) : Int) := by rw [wr64 (by omega) (by omega)]; omega
        have w4 : wr .u64 ((g : Int) + onI (p : Int)) = ((g + 2 ^ p : Nat) : Int) := by
          unfold onI
          rw [Int.toNat_natCast, ← Int.natCast_add]
          exact Deal.wrU (by omega)
        rw [hb, cond_true, eCck, bcK_n k (by omega), cond_true, eCch, bcI_n, cond_true] at h'
        rw [eConk, show onK (p : Int) = true by (unfold onK; rw [decide_eq_true_eq]; omega), cond_true, eCon, w1, w2, w4] at h'
        refine ⟨_, _, _, h', codesNil, .inl ⟨rfl, (D, k - 1, ow + bc D.length k, g + 2 ^ p), rfl, ⟨sfx, by dsimp only; omega, by dsimp only; omega, by dsimp only; omega⟩, by dsimp only; simp, ?_⟩⟩
        dsimp only
        rw [rkR, if_neg (by omega), if_pos hb, gpR, if_neg (by omega), if_pos hb, Nat.add_assoc, Nat.add_assoc]
      · rw [if_neg hb] at how hg
        rw [Bool.eq_false_iff.2 hb, cond_false] at h'
        refine ⟨_, _, _, h', codesNil, .inl ⟨rfl, (D, k, ow, g), rfl, ⟨sfx, hk, how, hg⟩, by dsimp only; simp, ?_⟩⟩
        dsimp only
        rw [rkR, if_neg (by omega), if_neg hb, gpR, if_neg (by omega), if_neg hb]
end Go.Proofs.YtpalajfcffdhoaaGreatDoor
