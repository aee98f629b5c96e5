/- Chapter 3: SeedSmall: the contracts hold; a round of the inner loop. -/
import Derived.Test.YtnbfnoomhlamnaaGreatNtT
namespace Go.Proofs.YtnbfnoomhlamnaaGreat
open Go Go.Eng
def aQ (G E : Int → Int → Int) (j : Nat) (l : List Int) : Int := match l with
  | [a, b, c, d, e, f, g, h] => (match j with
    | 0 => N2.w0 (G (N2.nval a b c d) (N2.nval e f g h))
    | 1 => N2.w1 (G (N2.nval a b c d) (N2.nval e f g h))
    | 2 => N2.w2 (G (N2.nval a b c d) (N2.nval e f g h))
    | 3 => N2.w3 (G (N2.nval a b c d) (N2.nval e f g h))
    | _ => E (N2.nval a b c d) (N2.nval e f g h))
  | _ => 0
def qS : QS := ⟨ofI, nextS, nextV, fun s => errI (rightB s), N2.inN, aQ N2.addZ N2.addE, aQ N2.subZ N2.subE, sN⟩
theorem tabQ_ok : PTabOk Tryz.prog (tabQ qS) := by
  refine addTab_ok (fun args c v h hc => ?_) (addTab_ok (fun args c v h hc => ?_) (addTab_ok (fun args c v h hc => ?_) (addTab_ok (fun args c v h hc => ?_) (addTab_ok (fun args c v h hc => ?_) (addTab_ok gAwake_ok emptyTab_ok)))))
  · unfold gQOf at h
    split at h
    · cases h; exact of_pure _
    · cases h
  · unfold gQNx at h
    split at h
    · cases h; exact next_pure _
    · cases h
  · unfold gQTwo at h
    split at h
    · cases h
      simp only [Bool.and_eq_true] at hc
      exact N2.add_p hc.1 hc.2
    · cases h
  · unfold gQTwo at h
    split at h
    · cases h
      simp only [Bool.and_eq_true] at hc
      exact N2.sub_p hc.1 hc.2
    · cases h
  · unfold gQTe at h
    split at h
    · cases h; exact tells19_pure hc
    · cases h
theorem hTabQ_ok : HTabOk Tryz.prog (hTabQ qS) := by
  refine addH_ok ?_ (addH_ok ?_ N2.hTabM_ok)
  · intro args h c v nb hq hc
    unfold gS10 at hq
    split at hq
    · cases hq; exact ⟨.of Tryz.func9 (by kernel_rfl), shuffles_fn _ _ _⟩
    · cases hq
  · intro args h c v nb hq hc
    unfold gS18 at hq
    split at hq
    · cases hq; exact ⟨.of Tryz.func11 (by kernel_rfl), shuf18_fn _ _⟩
    · cases hq
theorem orcQ_ok : OracleOk Tryz.prog (orcQ qS) := inl_ok (hOrcN_ok hTabQ_ok) ftab_ok tabQ_ok plainL_ok mixed 20
/-! ### the inner loop's round -/
noncomputable def smT (Q : QS) (i a s k n j : Int) (p q : List Int) : RTK :=
  bif decide (k ≤ 12) then bif decide (0 ≤ (0 : Int) ∧ 0 ≤ k ∧ k ≤ Int.ofNat p.length) then bif decide (0 + (k.toNat - 0) ≤ p.length) then
    some (.normal, [.i i, .i a, .i (Q.NX s), .i (wr .i64 (k + 1)), .i n, .i j, .l p, .l q], []) else none else none else
  some (.normal, [.i i, .i a, .i (Q.NX s), .i (wr .i64 (k + 1)), .i n, .i j, .l p, .l q], [])
noncomputable def smU (Q : QS) (i a s k n j : Int) (p q : List Int) (inn : Bool) : RTK :=
  bif decide (k.tmod 4 = 0) then bif decide (Int.ofNat p.length = 0) then none else atU p ((wr .i64 (i + k)).tmod (Int.ofNat p.length)) (fun _ => bif inn then smT Q i a s k n j p q else none) else smT Q i a s k n j p q
def smI (i k : Int) : Int := wr .i64 (1 + (wr .i64 (i + k)).tmod 4)
def smG (q : List Int) (x : Int) (j : Nat) : Int := q.getD (x.toNat * 4 + j) 0
def smL (q : List Int) (x : Int) : List Int := [q.getD (x.toNat * 4) 0, q.getD (x.toNat * 4 + 1) 0, q.getD (x.toNat * 4 + 1 + 1) 0, q.getD (x.toNat * 4 + 1 + 1 + 1) 0, 1, 0, 0, 0]
def smN (Q : QS) (q : List Int) (x : Int) : Bool := Q.IN (q.getD (x.toNat * 4) 0) (q.getD (x.toNat * 4 + 1) 0) (q.getD (x.toNat * 4 + 1 + 1) 0) (q.getD (x.toNat * 4 + 1 + 1 + 1) 0)
noncomputable def smR (Q : QS) (i a s k n j : Int) (p q : List Int) : RTK := bif decide (k < 60) then
  bif decide (0 ≤ smI i k ∧ smI i k < Int.ofNat (q.length / 4)) then bif decide ((smI i k).toNat * 4 + 4 ≤ q.length) then
  bif decide (k.tmod 3 = 1) then bif smN Q q (smI i k) && Q.IN 1 0 0 0 then smU Q i a s k n j p q (Q.IN (Q.A 0 (smL q (smI i k))) (Q.A 1 (smL q (smI i k))) (Q.A 2 (smL q (smI i k))) (Q.A 3 (smL q (smI i k)))) else none else
  bif decide (k.tmod 3 = 2) then bif smN Q q (smI i k) && Q.IN 1 0 0 0 then smU Q i a s k n j p q (Q.IN (Q.B 0 (smL q (smI i k))) (Q.B 1 (smL q (smI i k))) (Q.B 2 (smL q (smI i k))) (Q.B 3 (smL q (smI i k)))) else none else
  smU Q i a s k n j p q (smN Q q (smI i k)) else none else none else some (.exit 4, [.i i, .i a, .i s, .i n, .i j, .l p, .l q], [])
theorem sm_round (Q : QS) (rd : Option Nat) (i a s k n j : Int) (p q : List Int) : roundX Tryz.prog (orcQ Q) noLoops 100 0 rd 3 smLp3 smT3 smT3 (fun _ => smX3) [.i i, .i a, .i s, .i k, .i n, .i j, .l p, .l q] = smR Q i a s k n j p q := by kernel_rfl
def lims : List Int := [-9223372036854775808, -2147483647, -2147483646, -1, 0, 1, 2, 3, 10, 52, 1073741824, 1073741825, 1073741824, 2147483645, 2147483646, 2147483647, 9223372036854775807]
def pows : List Int := [1, 0, 0, 0, 2147483646, 0, 0, 0, 4, 1073741822, 0, 0, 4294967288, 2147483653, 536870910, 0, 16, 4294967280, 5, 268435455]
theorem smT_ok {i a s k n j : Int} (h0 : 0 ≤ k) (h1 : k < 60) : smT qS i a s k n j lims pows = some (.normal, [.i i, .i a, .i (nextS s), .i (k + 1), .i n, .i j, .l lims, .l pows], []) := by
  unfold smT
  rw [wrK (by omega) (by omega)]
  by_cases hk : k ≤ 12
  · rw [decide_eq_true hk, cond_true, decide_eq_true (show 0 ≤ (0 : Int) ∧ 0 ≤ k ∧ k ≤ Int.ofNat lims.length by refine ⟨by omega, h0, ?_⟩; show k ≤ 17; omega), cond_true, decide_eq_true (show 0 + (k.toNat - 0) ≤ lims.length by show _ ≤ 17; omega), cond_true]; rfl
  · rw [decide_eq_false hk, cond_false]; rfl
theorem smU_ok {i a s k n j : Int} {b : Bool} (hi0 : 0 ≤ i) (hi : i < 17) (h0 : 0 ≤ k) (h1 : k < 60) (hb : b = true) : smU qS i a s k n j lims pows b = some (.normal, [.i i, .i a, .i (nextS s), .i (k + 1), .i n, .i j, .l lims, .l pows], []) := by
  unfold smU
  rw [smT_ok h0 h1, hb]
  cases decide (k.tmod 4 = 0) with
  | false => rfl
  | true =>
    rw [cond_true, decide_eq_false (show ¬ Int.ofNat lims.length = 0 from fun h => by cases h), cond_false, wrK (by omega) (by omega)]
    obtain ⟨m, hm⟩ : ∃ m : Nat, (i + k).tmod (Int.ofNat lims.length) = (m : Int) ∧ m < 17 := by
      have h2 := Int.tmod_nonneg (Int.ofNat lims.length) (show 0 ≤ i + k by omega)
      have h3 := Int.tmod_lt_of_pos (i + k) (show (0 : Int) < Int.ofNat lims.length from (by show (0 : Int) < 17; omega))
      have h4 : Int.ofNat lims.length = 17 := rfl
      rw [h4] at h2 h3 ⊢
      exact ⟨((i + k).tmod 17).toNat, by omega, by omega⟩
    rw [hm.1, atU_at (show m < lims.length from hm.2), cond_true]
theorem smI_is {i k : Int} (hi0 : 0 ≤ i) (hi : i < 17) (h0 : 0 ≤ k) (h1 : k < 60) : smI i k = 1 ∨ smI i k = 2 ∨ smI i k = 3 ∨ smI i k = 4 := by
  unfold smI
  have h2 := Int.tmod_nonneg 4 (show 0 ≤ i + k by omega)
  have h3 := Int.tmod_lt_of_pos (i + k) (show (0 : Int) < 4 by omega)
  rw [wrK (n := i + k) (by omega) (by omega), wrK (by omega) (by omega)]
  omega
theorem smN_ok {x : Int} (h : x = 1 ∨ x = 2 ∨ x = 3 ∨ x = 4) : smN qS pows x = true := by
  rcases h with rfl | rfl | rfl | rfl <;> kernel_rfl
theorem smR_ok {i a s k n j : Int} (hi0 : 0 ≤ i) (hi : i < 17) (h0 : 0 ≤ k) (h1 : k < 60) : smR qS i a s k n j lims pows = some (.normal, [.i i, .i a, .i (nextS s), .i (k + 1), .i n, .i j, .l lims, .l pows], []) := by
  have hx := smI_is hi0 hi h0 h1
  have hn := smN_ok hx
  unfold smR
  rw [decide_eq_true h1, cond_true, decide_eq_true (show 0 ≤ smI i k ∧ smI i k < Int.ofNat (pows.length / 4) by refine ⟨by omega, ?_⟩; show smI i k < 5; omega), cond_true, decide_eq_true (show (smI i k).toNat * 4 + 4 ≤ pows.length by show _ ≤ 20; omega), cond_true, hn, show qS.IN 1 0 0 0 = true from rfl,
    smU_ok hi0 hi h0 h1 (show qS.IN (qS.A 0 (smL pows (smI i k))) (qS.A 1 (smL pows (smI i k))) (qS.A 2 (smL pows (smI i k))) (qS.A 3 (smL pows (smI i k))) = true from N2.inN_w _),
    smU_ok hi0 hi h0 h1 (show qS.IN (qS.B 0 (smL pows (smI i k))) (qS.B 1 (smL pows (smI i k))) (qS.B 2 (smL pows (smI i k))) (qS.B 3 (smL pows (smI i k))) = true from N2.inN_w _),
    smU_ok hi0 hi h0 h1 rfl]
  cases decide (k.tmod 3 = 1) <;> cases decide (k.tmod 3 = 2) <;> rfl
def itN : Nat → Int → Int
  | 0, s => s
  | n + 1, s => itN n (nextS s)
theorem sm_loop (rd : Option Nat) (i a n j : Int) (hi0 : 0 ≤ i) (hi : i < 17) : ∀ x : Nat × Int, x.1 ≤ 60 →
    ∃ m, SimL Tryz.prog 0 rd smLp3 m (smT3.at [.i i, .i a, .i x.2, .i ((60 - x.1 : Nat) : Int), .i n, .i j, .l lims, .l pows]) (.exit 4) (smX3.at [.i i, .i a, .i (itN x.1 x.2), .i n, .i j, .l lims, .l pows]) := by
  refine loop_of_roundsX_n (C := orcQ qS) (L := noLoops) (N := 100) (me := 3) (T := smT3) (T' := fun _ => smX3) orcQ_ok mixed noLoops_ok (by kernel_rfl) (fun _ => by kernel_rfl) (X := Nat × Int)
    (fun x => [.i i, .i a, .i x.2, .i ((60 - x.1 : Nat) : Int), .i n, .i j, .l lims, .l pows]) (fun x => x.1 ≤ 60) (fun x => x.1) (fun x => (.exit 4, [.i i, .i a, .i (itN x.1 x.2), .i n, .i j, .l lims, .l pows])) ?_
  rintro ⟨m, s⟩ hm
  dsimp only at hm ⊢
  have h := sm_round qS rd i a s ((60 - m : Nat) : Int) n j lims pows
  cases m with
  | zero =>
    unfold smR at h
    rw [decide_eq_false (show ¬ ((60 - 0 : Nat) : Int) < 60 by omega), cond_false] at h
    exact ⟨_, _, _, h, codesK, .inr ⟨by simp, rfl⟩⟩
  | succ m =>
    rw [smR_ok hi0 hi (by omega) (by omega), show ((60 - (m + 1) : Nat) : Int) + 1 = ((60 - m : Nat) : Int) by omega] at h
    exact ⟨_, _, _, h, codesK, .inl ⟨rfl, (m, nextS s), rfl, by dsimp only; omega, by dsimp only; omega, rfl⟩⟩
noncomputable def smTree3 : List PV → Fin
  | [.i i, .i a, .i s, .i k, .i n, .i j, .l p, .l q] => .br (pB (k = 0 ∧ 0 ≤ i ∧ i < 17 ∧ p = lims ∧ q = pows)) (.leaf (.exit 4) (smX3.at [.i i, .i a, .i (itN 60 s), .i n, .i j, .l p, .l q])) .no
  | _ => .no
end Go.Proofs.YtnbfnoomhlamnaaGreat
