/- Chapter 2, the reference: div: the states of its loops. -/
import Derived.Test.YtnbfnoomhlamnaaGreatNaR9
namespace Go.Proofs.YtnbfnoomhlamnaaGreat.N2
open Go Go.Eng
noncomputable def dqLp1 : Code := loopOf 4 Tryz.f62
noncomputable def dqLp2 : Code := loopOf 7 Tryz.f62
def dqT (n1 n2 : Bool) : Tm := ⟨mkS [(0, .gs 0), (1, .gs 1), (6, .gs 2), (7, .gs 3), (8, .int .i64)] 0 43, two n1 n2 ++ [.grow true 3 1 i64s, .grow false 3 1 i64s], []⟩
def dqX (n1 n2 : Bool) : Tm := ⟨mkS [(6, .gs 2), (7, .gs 3)] 0 43, two n1 n2 ++ [.grow true 3 1 i64s, .grow false 3 1 i64s], []⟩
def dqK (N : ND) (i : Int) (xs ys zs ws : List Int) (v : Int) : RT := bif decide (0 ≤ i ∧ i < nI zs) then bif decide (i.toNat < zs.length) then some (.normal, [.i i, .l xs, .l ys, .l (zs.set i.toNat (wr .i64 (v + 1))), .l (N.diff ws ys)], []) else none else none
theorem dq_round2 (n1 n2 : Bool) (N : ND) (rd : Option Nat) (i : Int) (xs ys zs ws : List Int) : roundT Tryz.prog (orcD (hTabD N) plainL) noLoops 200 2 rd 62 dqLp2 (dqT n1 n2) (dqT n1 n2) [.i i, .l xs, .l ys, .l zs, .l ws] =
    bif N.ok ws && N.ok ys then bif !N.lt ws ys then bif N.okS ws ys then atI zs i (fun v => dqK N i xs ys zs ws v) else none else some (.exit 2, [.i i, .l xs, .l ys, .l zs, .l ws], []) else none := by cases n1 <;> cases n2 <;> kernel_rfl
theorem ok_of_lt {r : Nat} {K : Nat} (h : (D r).length ≤ K) (hK : K ≤ 1000000) : okD (D r) = true := okD_D (by omega)
theorem D_mono {m n : Nat} (h : m ≤ n) : (D m).length ≤ (D n).length := by
  rcases Nat.lt_or_ge (D n).length (D m).length with h1 | h1
  · have := len_lt h1; omega
  · exact h1
theorem dq_loop2 (n1 n2 : Bool) (rd : Option Nat) (xs : List Int) (n i : Nat) (hn : 1 ≤ n) (hl : (D n).length ≤ 999999) : ∀ x : Nat × List Int, (x.1 < 10 * n ∧ i < x.2.length ∧ x.2.length ≤ 1000000 ∧ 0 ≤ x.2.getD i 0 ∧ x.2.getD i 0 + ((x.1 / n : Nat) : Int) ≤ 9) →
    SimC Tryz.prog 2 rd (.loop dqLp2) ((dqT n1 n2).at [.i (i : Int), .l xs, .l (D n), .l x.2, .l (D x.1)]) (.exit 2) ((dqT n1 n2).at [.i (i : Int), .l xs, .l (D n), .l (x.2.set i (x.2.getD i 0 + ((x.1 / n : Nat) : Int))), .l (D (x.1 % n))]) := by
  refine loop_of_rounds (C := orcD (hTabD D0) plainL) (L := noLoops) (N := 200) (me := 62) (T := dqT n1 n2) (T' := dqT n1 n2) (orcD_ok hTabD_ok plainL_ok) mixed noLoops_ok (by cases n1 <;> cases n2 <;> kernel_rfl) (by cases n1 <;> cases n2 <;> kernel_rfl) (X := Nat × List Int)
    (fun x => [.i (i : Int), .l xs, .l (D n), .l x.2, .l (D x.1)]) (fun x => x.1 < 10 * n ∧ i < x.2.length ∧ x.2.length ≤ 1000000 ∧ 0 ≤ x.2.getD i 0 ∧ x.2.getD i 0 + ((x.1 / n : Nat) : Int) ≤ 9) (fun x => x.1)
    (fun x => (.exit 2, [.i (i : Int), .l xs, .l (D n), .l (x.2.set i (x.2.getD i 0 + ((x.1 / n : Nat) : Int))), .l (D (x.1 % n))])) ?_
  rintro ⟨r, zs⟩ ⟨hr, hi, hz, h0, h9⟩
  dsimp only at hr hi hz h0 h9 ⊢
  have h := dq_round2 n1 n2 D0 rd i xs (D n) zs (D r)
  have hlen : (D r).length ≤ (D n).length + 1 := by
    refine D_len_lt ?_
    have := D_lt_pow n
    rw [Nat.pow_succ]; omega
  have k1 : D0.ok (D r) = true := ok_of_lt (r := r) (K := 1000000) (by omega) (by omega)
  have k2 : D0.ok (D n) = true := ok_of_lt (r := n) (K := 1000000) (by omega) (by omega)
  have k3 : D0.lt (D r) (D n) = decide (r < n) := by
    rw [show D0.lt = ltD from rfl]
    unfold ltD
    rw [val_D, val_D, Bool.eq_iff_iff, decide_eq_true_eq, decide_eq_true_eq]; omega
  rw [k1, k2, k3, Bool.and_self, cond_true] at h
  rcases Nat.lt_or_ge r n with hlt | hge
  · rw [decide_eq_true hlt, Bool.not_true, cond_false] at h
    rw [Nat.div_eq_of_lt hlt, Nat.mod_eq_of_lt hlt]
    have hs : zs.set i (zs.getD i 0 + ((0 : Nat) : Int)) = zs := by
      rw [show zs.getD i 0 + ((0 : Nat) : Int) = zs[i] by rw [List.getD_eq_getElem?_getD, List.getElem?_eq_getElem hi]; simp]
      exact List.set_getElem_self hi
    rw [hs]
    exact ⟨_, _, _, h, codes0, .inr ⟨by simp, rfl⟩⟩
  · have k4 : D0.okS (D r) (D n) = true := by
      rw [show D0.okS = sbC from rfl]
      unfold sbC
      rw [show okD (D r) = true from k1, show okD (D n) = true from k2, val_D, val_D, decide_eq_true (by omega)]; rfl
    have k5 : D0.diff (D r) (D n) = D (r - n) := by
      rw [show D0.diff = diffD from rfl]
      unfold diffD
      rw [val_D, val_D, show ((r : Int) - (n : Int)).toNat = r - n by omega]
    have hq : (r - n) / n + 1 = r / n := (Nat.div_eq_sub_div (by omega) hge).symm
    have hq0 := Int.natCast_nonneg (r / n)
    have hq1 := Int.natCast_nonneg ((r - n) / n)
    have hq2 : (((r - n) / n : Nat) : Int) + 1 = ((r / n : Nat) : Int) := by rw [← hq]; rfl
    have hm : (r - n) % n = r % n := (Nat.mod_eq_sub_mod hge).symm
    rw [decide_eq_false (by omega), Bool.not_false, cond_true, k4, cond_true, atI_eq (getD_some hi)] at h
    unfold dqK at h
    have hw : wr .i64 (zs.getD i 0 + 1) = zs.getD i 0 + 1 := wr64 (by omega) (by omega)
    rw [nI_eq, decide_eq_true (show 0 ≤ (i : Int) ∧ (i : Int) < (zs.length : Int) by omega), cond_true, show ((i : Int)).toNat = i from rfl, decide_eq_true hi, cond_true, hw, k5] at h
    have hg : (zs.set i (zs.getD i 0 + 1)).getD i 0 = zs.getD i 0 + 1 := by
      rw [List.getD_eq_getElem?_getD, List.getElem?_set_self hi]; rfl
    refine ⟨_, _, _, h, codes0, .inl ⟨rfl, (r - n, zs.set i (zs.getD i 0 + 1)), rfl, ⟨by dsimp only; omega, by dsimp only; rw [List.length_set]; exact hi, by dsimp only; rw [List.length_set]; exact hz, by dsimp only; rw [hg]; omega, by dsimp only; rw [hg]; omega⟩, by dsimp only; omega, ?_⟩⟩
    dsimp only
    rw [hg, hm, List.set_set, show zs.getD i 0 + 1 + (((r - n) / n : Nat) : Int) = zs.getD i 0 + ((r / n : Nat) : Int) by rw [← hq2]; omega]
def dqC (i : Int) (ys zs ws : List Int) : Bool := decide (0 ≤ i ∧ i < nI zs ∧ zs.getD i.toNat 0 = 0 ∧ zs.length ≤ 1000000) && (isD ws && (isD ys && decide (ys.length ≤ 999999 ∧ 1 ≤ val ys ∧ val ws < 10 * val ys)))
def dqTree (n1 n2 : Bool) : List PV → Fin
  | [.i i, .l xs, .l ys, .l zs, .l ws] => .br (dqC i ys zs ws) (.leaf (.exit 2) ((dqT n1 n2).at [.i i, .l xs, .l ys, .l (zs.set i.toNat (val ws / val ys)), .l (DD (val ws % val ys))])) .no
  | _ => .no
noncomputable def dqL2 (n1 n2 : Bool) : Loops := sums (fun n => match n with | 7 => some (lsumF 2 (dqT n1 n2) dqLp2 (dqTree n1 n2)) | _ => none)
theorem dqL2_ok (n1 n2 : Bool) : loopsOk Tryz.prog (dqL2 n1 n2) := by
  intro n g hg
  simp only [dqL2, sums] at hg
  split at hg
  · cases hg
    refine lsumF_ok (by cases n1 <;> cases n2 <;> kernel_rfl) (fun rd ps e1 st1 hq => ?_)
    unfold dqTree at hq
    split at hq
    · rename_i i xs ys zs ws
      simp only [Fin.pick] at hq
      cases hc : dqC i ys zs ws with
      | false => rw [hc] at hq; cases hq
      | true =>
        rw [hc, cond_true] at hq
        cases hq
        simp only [dqC, Bool.and_eq_true, decide_eq_true_eq] at hc
        obtain ⟨⟨h0, h1, h2, h3⟩, hw, hy, h4, h5, h6⟩ := hc
        obtain ⟨r, rfl⟩ := isD_eq hw
        obtain ⟨n, rfl⟩ := isD_eq hy
        rw [val_D] at h5 h6
        rw [val_D] at h6
        rw [nI_eq] at h1
        obtain ⟨k, rfl⟩ : ∃ k : Nat, i = k := ⟨i.toNat, by omega⟩
        rw [show ((k : Int)).toNat = k from rfl] at h2 ⊢
        have hq9 : r / n < 10 := (Nat.div_lt_iff_lt_mul (by omega)).2 (by omega)
        have := dq_loop2 n1 n2 rd xs n k (by omega) h4 (r, zs) ⟨by dsimp only; omega, by dsimp only; omega, h3, by dsimp only; omega, by dsimp only; omega⟩
        dsimp only at this
        rw [h2, Int.zero_add] at this
        rw [val_D, val_D]
        exact this
    · cases hq
  · cases hg
/-- The rest behind one digit more. -/
def dqW (v : Int) (ws : List Int) : List Int := List.take (tz ([v] ++ ws)).length ([v] ++ ws)
def dqN (i : Int) (xs ys zs ws : List Int) : RT := bif dqC i ys zs ws then some (.normal, [.i (wr .i64 (i - 1)), .l xs, .l ys, .l (zs.set i.toNat (val ws / val ys)), .l (DD (val ws % val ys))], []) else none
theorem dq_round1 (n1 n2 : Bool) (N : ND) (rd : Option Nat) (i : Int) (xs ys zs ws : List Int) : roundT Tryz.prog (orcD (hTabD N) plainL) (dqL2 n1 n2) 200 2 rd 62 dqLp1 (dqT n1 n2) (dqX n1 n2) [.i i, .l xs, .l ys, .l zs, .l ws] =
    bif decide (0 ≤ i) then atI xs i (fun v => bif fitL ([v] ++ ws) then bif decide (([v] ++ ws).length ≤ 9223372036854775807) then cond (codesB [(dqLp2, dqLp2)]) (dqN i xs ys zs (dqW v ws)) none else none else none) else some (.exit 0, [.l xs, .l ys, .l zs, .l ws], []) := by cases n1 <;> cases n2 <;> kernel_rfl
end Go.Proofs.YtnbfnoomhlamnaaGreat.N2
