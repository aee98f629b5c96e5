/- Texts merged: Fi2, Fi3. -/
import Derived.Test.YtnbfnoomhlamnaaGreatFk
/- Chapter 3: flatInts: a round of each loop. -/
namespace Go.Proofs.YtnbfnoomhlamnaaGreat
open Go Go.Eng
/-- A mark is laid. -/
noncomputable def g1 (f : Int → Int) (i n : Int) (e : Nat) (a : List Int) (K : List Int → List PV) : RTK := bif decide (i < n) then bif decide (0 ≤ i ∧ i < Int.ofNat a.length) then bif decide (i.toNat < a.length) then some (.normal, .i (wr .i64 (i + 1)) :: K (a.set i.toNat (f i)), []) else none else none else some (.exit e, K a, [])
theorem r1_0 (MK : Int → Int → Int) (rd : Option Nat) (i : Int) (a b : List Int) : roundT Tryz.prog (orcF MK) noLoops 100 5 rd 64 fLp1 (f1T 0) (f1X 0) [.i i, .l a, .l b] = g1 (MK 0) i (Int.ofNat a.length) 2 a (fun a => [.l a, .l b]) := by kernel_rfl
theorem r1_1 (MK : Int → Int → Int) (rd : Option Nat) (i : Int) (a b : List Int) : roundT Tryz.prog (orcF MK) noLoops 100 5 rd 64 fLp1 (f1T 1) (f1X 1) [.i i, .l a, .l b] = g1 (MK 1) i (Int.ofNat b.length) 2 b (fun b => [.l a, .l b]) := by kernel_rfl
theorem r4_0 (MK : Int → Int → Int) (rd : Option Nat) (i : Int) (p a q b c : List Int) : roundT Tryz.prog (orcF MK) noLoops 100 5 rd 64 fLp4 (f5T 0) (f5X 0) [.i i, .l p, .l a, .l q, .l b, .l c] = g1 (MK (wr .i64 (0 + Int.ofNat 2))) i 64 14 c (fun c => [.l p, .l a, .l q, .l b, .l c]) := by kernel_rfl
theorem r4_1 (MK : Int → Int → Int) (rd : Option Nat) (i : Int) (p a q b c : List Int) : roundT Tryz.prog (orcF MK) noLoops 100 5 rd 64 fLp4 (f5T 1) (f5X 1) [.i i, .l p, .l a, .l q, .l b, .l c] = g1 (MK (wr .i64 (1 + Int.ofNat 2))) i 64 14 c (fun c => [.l p, .l a, .l q, .l b, .l c]) := by kernel_rfl
/-- One mark more. -/
noncomputable def g2 (f : Int → Int) (i : Int) (c a : List Int) (ck : Bool) (K : List Int → List PV) : RTK := bif decide ((c ++ [f (wr .i64 (Int.ofNat a.length + i))]).length * 9 ≤ 70368744177664) then bif ck then some (.normal, .i (wr .i64 (i + 1)) :: K (c ++ [f (wr .i64 (Int.ofNat a.length + i))]), []) else none else none
theorem r2_0 (MK : Int → Int → Int) (rd : Option Nat) (i : Int) (a b : List Int) : roundG Tryz.prog (orcF MK) noLoops 100 5 rd 64 fLp2 f2T f2U f2X [.i i, .l a, .l b] = bif decide (i < 64) then g2 (MK 0) i a a true (fun c => [.l b, .l c, .l a]) else none := by kernel_rfl
theorem r2_1 (MK : Int → Int → Int) (rd : Option Nat) (i : Int) (p a b : List Int) : roundG Tryz.prog (orcF MK) noLoops 100 5 rd 64 fLp2 f3T f3U f3X [.i i, .l b, .l p, .l a] = bif decide (i < 64) then g2 (MK 1) i b b true (fun c => [.l p, .l a, .l c, .l b]) else none := by kernel_rfl
theorem u2_0 (MK : Int → Int → Int) (rd : Option Nat) (i : Int) (a b c : List Int) : roundT Tryz.prog (orcF MK) noLoops 100 5 rd 64 fLp2 f2U f2X [.i i, .l b, .l c, .l a] = bif decide (i < 64) then g2 (MK 0) i c a (decide (List.take a.length c = a)) (fun c => [.l b, .l c, .l a]) else some (.exit 6, [.l b, .l c, .l a], []) := by kernel_rfl
theorem u2_1 (MK : Int → Int → Int) (rd : Option Nat) (i : Int) (p a b c : List Int) : roundT Tryz.prog (orcF MK) noLoops 100 5 rd 64 fLp2 f3U f3X [.i i, .l p, .l a, .l c, .l b] = bif decide (i < 64) then g2 (MK 1) i c b (decide (List.take b.length c = b)) (fun c => [.l p, .l a, .l c, .l b]) else some (.exit 6, [.l p, .l a, .l c, .l b], []) := by kernel_rfl
def atM (l : List Int) (i : Int) (K : Int → RTK) : RTK := match l[i.toNat]? with | some v => K v | none => none
/-- Both rows are looked at. -/
noncomputable def g3 (f : Int → Int) (i : Int) (p a : List Int) (all : List PV) : RTK := bif decide (i < Int.ofNat p.length) then atU p i (fun v => bif !decide (v = f i) then some (.ret, all, []) else
  bif decide (i < Int.ofNat a.length) then bif decide (0 ≤ i ∧ i < Int.ofNat a.length) then bif decide (List.take a.length p = a) then atM a i (fun v => bif !decide (v = f i) then some (.ret, all, []) else some (.normal, .i (wr .i64 (i + 1)) :: all, [])) else none else none
  else some (.normal, .i (wr .i64 (i + 1)) :: all, [])) else some (.exit 10, all, [])
theorem r3_0 (MK : Int → Int → Int) (rd : Option Nat) (i : Int) (p a q b : List Int) : roundT Tryz.prog (orcF MK) noLoops 100 5 rd 64 fLp3 (f4T 0) (f4X 0) [.i i, .l p, .l a, .l q, .l b] = g3 (MK 0) i p a [.l p, .l a, .l q, .l b] := by kernel_rfl
theorem r3_1 (MK : Int → Int → Int) (rd : Option Nat) (i : Int) (p a q b : List Int) : roundT Tryz.prog (orcF MK) noLoops 100 5 rd 64 fLp3 (f4T 1) (f4X 1) [.i i, .l p, .l a, .l q, .l b] = g3 (MK 1) i q b [.l p, .l a, .l q, .l b] := by kernel_rfl
noncomputable def g5 (f : Int → Int) (i : Int) (p a : List Int) (all : List PV) : RTK := bif decide (i < Int.ofNat a.length) then bif decide (0 ≤ i ∧ i < Int.ofNat a.length) then bif decide (List.take a.length p = a) then atM a i (fun v => bif !decide (v = f i) then some (.ret, all, []) else
  atU p i (fun v => bif !decide (v = f i) then some (.ret, all, []) else some (.normal, .i (wr .i64 (i + 1)) :: all, []))) else none else none else some (.exit 18, all, [])
theorem r5_0 (MK : Int → Int → Int) (rd : Option Nat) (i : Int) (p a q b : List Int) : roundT Tryz.prog (orcF MK) noLoops 100 5 rd 64 fLp5 (f6T 0) (f6X 0) [.i i, .l p, .l a, .l q, .l b] = g5 (MK 0) i p a [.l p, .l a, .l q, .l b] := by kernel_rfl
theorem r5_1 (MK : Int → Int → Int) (rd : Option Nat) (i : Int) (p a q b : List Int) : roundT Tryz.prog (orcF MK) noLoops 100 5 rd 64 fLp5 (f6T 1) (f6X 1) [.i i, .l p, .l a, .l q, .l b] = g5 (MK 1) i q b [.l p, .l a, .l q, .l b] := by kernel_rfl
end Go.Proofs.YtnbfnoomhlamnaaGreat

/- Chapter 3: flatInts: what each loop comes to. -/
namespace Go.Proofs.YtnbfnoomhlamnaaGreat
open Go Go.Eng
theorem mks_over (f : Int → Int) (i : Nat) (c : List Int) (h : i ≤ c.length) : (mks f i ++ c.drop i).length = c.length := by rw [List.length_append, mks_len, List.length_drop]; omega
theorem loop_g1 {rd : Option Nat} {body : Code} {T X : Tm} (hT : T.ok = true) (hX : X.ok = true) (f : Int → Int) (n e : Nat) (K : List Int → List PV) (row : List Int) (hn : row.length = n) (hb : n ≤ 1000000)
    (hr : ∀ (i : Int) (a : List Int), a.length = n → roundT Tryz.prog (orcF mkV) noLoops 100 5 rd 64 body T X (.i i :: K a) = g1 f i (n : Int) e a K) : SimC Tryz.prog 5 rd (.loop body) (T.at (.i 0 :: K row)) (.exit e) (X.at (K (mks f n))) := by
  have main := loop_of_rounds (P := Tryz.prog) (C := orcF mkV) (L := noLoops) (N := 100) (n0 := 5) (rd := rd) (me := 64) (c := body) (T := T) (T' := X) orcF_ok mixed noLoops_ok hT hX (X := Nat)
    (fun i => .i (i : Int) :: K (mks f i ++ row.drop i)) (fun i => i ≤ n) (fun i => n - i) (fun _ => (.exit e, K (mks f n))) ?_ 0 (Nat.zero_le _)
  · exact main
  intro i hi
  have hl := mks_over f i row (by omega)
  have h := hr (i : Int) (mks f i ++ row.drop i) (by rw [hl]; exact hn)
  unfold g1 at h
  rw [hl, hn] at h
  rcases Nat.lt_or_ge i n with hlt | hge
  · rw [decide_eq_true (show (i : Int) < (n : Int) by omega), cond_true, decide_eq_true (show 0 ≤ (i : Int) ∧ (i : Int) < Int.ofNat n by refine ⟨by omega, ?_⟩; show (i : Int) < (n : Int); omega), cond_true,
      decide_eq_true (show (i : Int).toNat < n from hlt), cond_true, wrK (by omega) (by omega), show (i : Int).toNat = i from rfl, mks_set (by omega)] at h
    exact ⟨_, _, _, h, codesK, .inl ⟨rfl, i + 1, rfl, by omega, by omega, rfl⟩⟩
  · rw [decide_eq_false (show ¬ (i : Int) < (n : Int) by omega), cond_false] at h
    have : i = n := by omega
    subst this
    rw [List.drop_eq_nil_of_le (by omega), List.append_nil] at h
    refine ⟨_, _, _, by rw [List.drop_eq_nil_of_le (by omega), List.append_nil]; exact h, codesK, .inr ⟨by simp, rfl⟩⟩
theorem g2_ok {f : Int → Int} {n i : Nat} {ck : Bool} {K : List Int → List PV} (hn : n ≤ 1000000) (hi : i < 64) (hck : ck = true) : g2 f (i : Int) (mks f (n + i)) (mks f n) ck K = some (.normal, .i ((i + 1 : Nat) : Int) :: K (mks f (n + (i + 1))), []) := by
  unfold g2
  have e : wr .i64 (Int.ofNat (mks f n).length + (i : Int)) = ((n + i : Nat) : Int) := by
    rw [mks_len, show Int.ofNat n = (n : Int) from rfl, wrK (by omega) (by omega)]; omega
  rw [e, ← mks_succ, hck, mks_len, decide_eq_true (show (n + i + 1) * 9 ≤ 70368744177664 by omega), cond_true, cond_true, wrK (by omega) (by omega)]
  rfl
theorem loop_u {rd : Option Nat} {body : Code} {T X : Tm} (hT : T.ok = true) (hX : X.ok = true) (f : Int → Int) (n : Nat) (K : List Int → List PV) (hb : n ≤ 1000000)
    (hr : ∀ (i : Int) (c : List Int), roundT Tryz.prog (orcF mkV) noLoops 100 5 rd 64 body T X (.i i :: K c) = bif decide (i < 64) then g2 f i c (mks f n) (decide (List.take (mks f n).length c = mks f n)) K else some (.exit 6, K c, [])) :
    ∀ i : Nat, i ≤ 64 → ∃ m, SimL Tryz.prog 5 rd body m (T.at (.i (i : Int) :: K (mks f (n + i)))) (.exit 6) (X.at (K (mks f (n + 64)))) := by
  refine loop_of_rounds_n (P := Tryz.prog) (C := orcF mkV) (L := noLoops) (N := 100) (n0 := 5) (rd := rd) (me := 64) (c := body) (T := T) (T' := X) orcF_ok mixed noLoops_ok hT hX (X := Nat)
    (fun i => .i (i : Int) :: K (mks f (n + i))) (fun i => i ≤ 64) (fun i => 64 - i) (fun _ => (.exit 6, K (mks f (n + 64)))) ?_
  intro i hi
  have h := hr (i : Int) (mks f (n + i))
  rcases Nat.lt_or_ge i 64 with hlt | hge
  · rw [decide_eq_true (show (i : Int) < 64 by omega), cond_true, g2_ok hb hlt (by rw [mks_len, mks_take (by omega)]; exact decide_eq_true rfl)] at h
    exact ⟨_, _, _, h, codesK, .inl ⟨rfl, i + 1, rfl, by omega, by omega, rfl⟩⟩
  · rw [decide_eq_false (show ¬ (i : Int) < 64 by omega), cond_false] at h
    have : i = 64 := by omega
    subst this
    exact ⟨_, _, _, h, codesK, .inr ⟨by simp, rfl⟩⟩
theorem loop_g2 {rd : Option Nat} {body : Code} {T0 T X : Tm} (hT : T.ok = true) (hX : X.ok = true) (f : Int → Int) (n : Nat) (K : List Int → List PV) (p0 : List PV) (hb : n ≤ 1000000)
    (h0 : roundG Tryz.prog (orcF mkV) noLoops 100 5 rd 64 body T0 T X p0 = bif decide ((0 : Int) < 64) then g2 f 0 (mks f n) (mks f n) true K else none)
    (hr : ∀ (i : Int) (c : List Int), roundT Tryz.prog (orcF mkV) noLoops 100 5 rd 64 body T X (.i i :: K c) = bif decide (i < 64) then g2 f i c (mks f n) (decide (List.take (mks f n).length c = mks f n)) K else some (.exit 6, K c, [])) :
    SimC Tryz.prog 5 rd (.loop body) (T0.at p0) (.exit 6) (X.at (K (mks f (n + 64)))) := by
  obtain ⟨m, hm⟩ := loop_u hT hX f n K hb hr 1 (by omega)
  have e := g2_ok (f := f) (n := n) (i := 0) (ck := true) (K := K) hb (by omega) rfl
  rw [decide_eq_true (by omega), cond_true] at h0
  rw [show ((0 : Nat) : Int) = 0 from rfl, Nat.add_zero] at e
  rw [e] at h0
  exact loop_peel orcF_ok mixed noLoops_ok hT hX h0 codesK hm
theorem atM_at {l : List Int} {i : Nat} {v : Int} {K : Int → RTK} (h : l[i]? = some v) : atM l (i : Int) K = K v := by
  unfold atM; rw [show (i : Int).toNat = i from rfl, h]
theorem atU_get {l : List Int} {i : Nat} {v : Int} {K : Int → RTK} (h : l[i]? = some v) : atU l (i : Int) K = K v := by
  obtain ⟨h1, h2⟩ := List.getElem?_eq_some_iff.1 h
  rw [atU_at h1, h2]
theorem loop_g3 {rd : Option Nat} {body : Code} {T X : Tm} (hT : T.ok = true) (hX : X.ok = true) (f : Int → Int) (n m : Nat) (all : List PV) (hnm : n ≤ m) (hb : m ≤ 1000000)
    (hr : ∀ (i : Int), roundT Tryz.prog (orcF mkV) noLoops 100 5 rd 64 body T X (.i i :: all) = g3 f i (mks f m) (mks f n) all) : SimC Tryz.prog 5 rd (.loop body) (T.at (.i 0 :: all)) (.exit 10) (X.at all) := by
  have main := loop_of_rounds (P := Tryz.prog) (C := orcF mkV) (L := noLoops) (N := 100) (n0 := 5) (rd := rd) (me := 64) (c := body) (T := T) (T' := X) orcF_ok mixed noLoops_ok hT hX (X := Nat)
    (fun i => .i (i : Int) :: all) (fun i => i ≤ m) (fun i => m - i) (fun _ => (.exit 10, all)) ?_ 0 (Nat.zero_le _)
  · exact main
  intro i hi
  have h := hr (i : Int)
  unfold g3 at h
  rw [mks_len, mks_len, decide_eq_true (mks_take (f := f) hnm)] at h
  rcases Nat.lt_or_ge i m with hlt | hge
  · rw [decide_eq_true (show (i : Int) < Int.ofNat m by show (i : Int) < (m : Int); omega), cond_true, atU_get (mks_get hlt), decide_eq_true rfl] at h
    simp only [Bool.not_true] at h
    rw [cond_false] at h
    rcases Nat.lt_or_ge i n with h1 | h1
    · rw [decide_eq_true (show (i : Int) < Int.ofNat n by show (i : Int) < (n : Int); omega), cond_true, decide_eq_true (show 0 ≤ (i : Int) ∧ (i : Int) < Int.ofNat n by refine ⟨by omega, ?_⟩; show (i : Int) < (n : Int); omega), cond_true,
        cond_true, atM_at (mks_get h1), decide_eq_true rfl] at h
      simp only [Bool.not_true] at h
      rw [cond_false, wrK (by omega) (by omega)] at h
      exact ⟨_, _, _, h, codesK, .inl ⟨rfl, i + 1, rfl, by omega, by omega, rfl⟩⟩
    · rw [decide_eq_false (show ¬ (i : Int) < Int.ofNat n by show ¬ (i : Int) < (n : Int); omega), cond_false, wrK (by omega) (by omega)] at h
      exact ⟨_, _, _, h, codesK, .inl ⟨rfl, i + 1, rfl, by omega, by omega, rfl⟩⟩
  · rw [decide_eq_false (show ¬ (i : Int) < Int.ofNat m by show ¬ (i : Int) < (m : Int); omega), cond_false] at h
    exact ⟨_, _, _, h, codesK, .inr ⟨by simp, rfl⟩⟩
theorem loop_g5 {rd : Option Nat} {body : Code} {T X : Tm} (hT : T.ok = true) (hX : X.ok = true) (f : Int → Int) (n : Nat) (p : List Int) (all : List PV) (hp : p.take n = mks f n) (hb : n ≤ 1000000)
    (hr : ∀ (i : Int), roundT Tryz.prog (orcF mkV) noLoops 100 5 rd 64 body T X (.i i :: all) = g5 f i p (mks f n) all) : SimC Tryz.prog 5 rd (.loop body) (T.at (.i 0 :: all)) (.exit 18) (X.at all) := by
  have main := loop_of_rounds (P := Tryz.prog) (C := orcF mkV) (L := noLoops) (N := 100) (n0 := 5) (rd := rd) (me := 64) (c := body) (T := T) (T' := X) orcF_ok mixed noLoops_ok hT hX (X := Nat)
    (fun i => .i (i : Int) :: all) (fun i => i ≤ n) (fun i => n - i) (fun _ => (.exit 18, all)) ?_ 0 (Nat.zero_le _)
  · exact main
  intro i hi
  have h := hr (i : Int)
  unfold g5 at h
  rw [mks_len] at h
  rcases Nat.lt_or_ge i n with hlt | hge
  · have hpi : p[i]? = some (f (i : Int)) := by
      have := mks_get (f := f) hlt
      rw [← hp, List.getElem?_take, if_pos hlt] at this
      exact this
    rw [decide_eq_true (show (i : Int) < Int.ofNat n by show (i : Int) < (n : Int); omega), cond_true, decide_eq_true (show 0 ≤ (i : Int) ∧ (i : Int) < Int.ofNat n by refine ⟨by omega, ?_⟩; show (i : Int) < (n : Int); omega), cond_true,
      decide_eq_true hp, cond_true, atM_at (mks_get hlt), decide_eq_true rfl] at h
    simp only [Bool.not_true] at h
    rw [cond_false, atU_get hpi, decide_eq_true rfl] at h
    simp only [Bool.not_true] at h
    rw [cond_false, wrK (by omega) (by omega)] at h
    exact ⟨_, _, _, h, codesK, .inl ⟨rfl, i + 1, rfl, by omega, by omega, rfl⟩⟩
  · rw [decide_eq_false (show ¬ (i : Int) < Int.ofNat n by show ¬ (i : Int) < (n : Int); omega), cond_false] at h
    exact ⟨_, _, _, h, codesK, .inr ⟨by simp, rfl⟩⟩
end Go.Proofs.YtnbfnoomhlamnaaGreat
