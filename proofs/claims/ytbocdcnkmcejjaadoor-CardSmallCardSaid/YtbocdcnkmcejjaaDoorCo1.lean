/- Chapter 4: CardOrder's loops over the list. -/
import Derived.Test.YtbocdcnkmcejjaaDoorCoT
namespace Go.Proofs.YtbocdcnkmcejjaaDoor
open Go Go.Eng
/-! ### the list of a set -/
theorem desc_mem {r : Nat} {c : Int} : ∀ {n : Nat}, c ∈ desc r n → ∃ t : Nat, c = t ∧ t < n ∧ r.testBit t = true
  | 0, h => by simp [desc] at h
  | n + 1, h => by
    simp only [desc] at h
    cases hb : r.testBit n with
    | true =>
      rw [hb, if_pos rfl] at h
      rcases List.mem_cons.1 h with rfl | h
      · exact ⟨n, rfl, by omega, hb⟩
      · obtain ⟨t, h1, h2, h3⟩ := desc_mem h; exact ⟨t, h1, by omega, h3⟩
    | false =>
      rw [hb, if_neg (by simp)] at h
      obtain ⟨t, h1, h2, h3⟩ := desc_mem h; exact ⟨t, h1, by omega, h3⟩
theorem desc_sorted (r : Nat) : ∀ n : Nat, (desc r n).Pairwise (fun a b => b < a)
  | 0 => by simp [desc]
  | n + 1 => by
    simp only [desc]
    split
    · refine List.pairwise_cons.2 ⟨fun c hc => ?_, desc_sorted r n⟩
      obtain ⟨t, rfl, h, _⟩ := desc_mem hc
      omega
    · exact desc_sorted r n
theorem desc_next {r n i : Nat} {c d : Int} (h1 : (desc r n)[i]? = some d) (h2 : (desc r n)[i + 1]? = some c) : c < d := by
  obtain ⟨a1, rfl⟩ := List.getElem?_eq_some_iff.1 h1
  obtain ⟨a2, rfl⟩ := List.getElem?_eq_some_iff.1 h2
  exact List.pairwise_iff_getElem.1 (desc_sorted r n) i (i + 1) a1 a2 (by omega)
theorem desc_filter {r q : Nat} {p : Int → Bool} : ∀ n : Nat, (∀ i : Nat, i < n → q.testBit i = (r.testBit i && p (i : Int))) → (desc r n).filter p = desc q n
  | 0, _ => rfl
  | n + 1, h => by
    have ih := desc_filter (r := r) (q := q) (p := p) n fun i hi => h i (by omega)
    have hn := h n (by omega)
    simp only [desc]
    rw [hn]
    cases hb : r.testBit n <;> cases hp : p (n : Int) <;> simp [hp, ih]
theorem desc_last {r t : Nat} (h1 : r.testBit t = true) (h2 : ∀ i, i < t → r.testBit i = false) : ∀ n, t < n → ∃ l, desc r n = l ++ [(t : Int)]
  | 0, h => by omega
  | n + 1, h => by
    simp only [desc]
    by_cases e : t = n
    · subst e
      have : desc r t = [] := desc_skip' t h2
      rw [h1, if_pos rfl, this]
      exact ⟨[], rfl⟩
    · obtain ⟨l, hl⟩ := desc_last h1 h2 n (by omega)
      rw [hl]
      split
      · exact ⟨(n : Int) :: l, rfl⟩
      · exact ⟨l, rfl⟩
where desc_skip' {r : Nat} : ∀ n : Nat, (∀ i, i < n → r.testBit i = false) → desc r n = []
  | 0, _ => rfl
  | n + 1, h => by
    simp only [desc]
    rw [h n (by omega), if_neg (by simp)]
    exact desc_skip' n fun i hi => h i (by omega)
/-! ### the first loop -/
def coNx (m n i : Int) (b : Bool) (g xs : List Int) : RT := some (.normal, [.i m, .b b, .i n, .i (wr .i64 (i + 1)), .l g, .l xs], [])
def coRt (m : Int) (g xs : List Int) : RT := some (.ret, [.i m, .b false, .l g, .l xs], [])
def coAt (xs : List Int) (i : Int) (K : Int → RT) : RT := bif decide (0 ≤ i ∧ i < Int.ofNat xs.length) then match xs[i.toNat]? with | some v => K v | none => none else none
theorem co_round1 (rd : Option Nat) (m n i : Int) (b : Bool) (g xs : List Int) : roundT Tryd.prog (orcW tabD plainL) noLoops 100 1 rd 6 coLp1 coT1 coX1 [.i m, .b b, .i n, .i i, .l g, .l xs] =
    bif decide (i < n) then coAt xs i fun c => bif decide (c < 0) then none else bif decide (bitI m c = 0) then coRt m g xs else
      bif decide (0 < i) then coAt xs (wr .i64 (i - 1)) fun d => bif decide (suitI d < suitI c) then coRt m g xs else
        coAt xs (wr .i64 (i - 1)) fun d => bif decide (suitI d = suitI c) then coAt xs (wr .i64 (i - 1)) fun d => bif decide (rankI d ≤ rankI c) then coRt m g xs else coNx m n i b g xs
        else coNx m n i b g xs
      else coNx m n i b g xs
    else some (.exit 0, [.i m, .b b, .l g, .l xs], []) := by kernel_rfl
theorem rank_nat {t : Nat} (ht : t < 52) : rankI (t : Int) = ((t % 13 : Nat) : Int) := by
  unfold rankI
  rw [decide_eq_true (show (t : Int) < 52 by omega), cond_true, Int.tmod_eq_emod_of_nonneg (by omega)]
  rfl
theorem coAt_some {xs : List Int} {i : Nat} {v : Int} {K : Int → RT} (h : xs[i]? = some v) : coAt xs (i : Int) K = K v := by
  unfold coAt
  have hl := getElem?_lt h
  rw [decide_eq_true (show 0 ≤ (i : Int) ∧ (i : Int) < Int.ofNat xs.length from ⟨by omega, by simpa using hl⟩), show ((i : Int)).toNat = i by omega, h]
  rfl
theorem co_loop1 (rd : Option Nat) (m : Nat) (b : Bool) (g : List Int) (hm : m < 4503599627370496) : ∀ i : Nat, i ≤ (desc m 52).length →
    SimC Tryd.prog 1 rd (.loop coLp1) (coT1.at [.i (m : Int), .b b, .i ((desc m 52).length : Nat), .i (i : Int), .l g, .l (desc m 52)]) (.exit 0) (coX1.at [.i (m : Int), .b b, .l g, .l (desc m 52)]) := by
  have hlen := desc_len m 52
  generalize hxs : desc m 52 = xs at *
  refine loop_of_rounds (C := orcW tabD plainL) (L := noLoops) (N := 100) (me := 6) (T := coT1) (T' := coX1) (orcW_ok tabD_ok plainL_ok) mixed noLoops_ok (by kernel_rfl) (by kernel_rfl) (X := Nat)
    (fun i => [.i (m : Int), .b b, .i (xs.length : Nat), .i (i : Int), .l g, .l xs]) (fun i => i ≤ xs.length) (fun i => xs.length - i)
    (fun _ => (.exit 0, [.i (m : Int), .b b, .l g, .l xs])) ?_
  intro i hi
  have h := co_round1 rd m xs.length i b g xs
  by_cases hlt : i < xs.length
  · have w1 : wr .i64 ((i : Int) + 1) = ((i + 1 : Nat) : Int) := by rw [wr64 (by omega) (by omega)]; omega
    have hc : xs[i]? = some xs[i] := List.getElem?_eq_getElem hlt
    generalize xs[i] = c at hc
    have hmem : c ∈ desc m 52 := by rw [hxs]; exact List.mem_of_getElem? hc
    obtain ⟨t, rfl, ht, htb⟩ := desc_mem hmem
    rw [decide_eq_true (show (i : Int) < (xs.length : Nat) by omega), cond_true, coAt_some hc, decide_eq_false (show ¬ (t : Int) < 0 by omega), bit_nat (by omega) (by omega), htb, if_pos rfl] at h
    have hgo : roundT Tryd.prog (orcW tabD plainL) noLoops 100 1 rd 6 coLp1 coT1 coX1 [.i (m : Int), .b b, .i (xs.length : Nat), .i (i : Int), .l g, .l xs] = some (.normal, [.i (m : Int), .b b, .i (xs.length : Nat), .i ((i + 1 : Nat) : Int), .l g, .l xs], []) := by
      rw [h]
      unfold coNx
      rw [w1]
      cases i with
      | zero => rfl
      | succ j =>
        have w2 : wr .i64 (((j + 1 : Nat) : Int) - 1) = (j : Int) := by rw [wr64 (by omega) (by omega)]; omega
        have hd : xs[j]? = some xs[j] := List.getElem?_eq_getElem (by omega)
        generalize xs[j] = d at hd
        have hmem : d ∈ desc m 52 := by rw [hxs]; exact List.mem_of_getElem? hd
        obtain ⟨u, rfl, hu, hub⟩ := desc_mem hmem
        have hlt2 : (t : Int) < u := desc_next (r := m) (n := 52) (by rw [hxs]; exact hd) (by rw [hxs]; exact hc)
        rw [decide_eq_false (show ¬ (1 : Int) = 0 by decide), decide_eq_true (show (0 : Int) < ((j + 1 : Nat) : Int) by omega), w2, coAt_some hd, coAt_some hd, coAt_some hd, suit_nat ht, suit_nat hu, rank_nat ht, rank_nat hu,
          decide_eq_false (show ¬ ((u / 13 : Nat) : Int) < ((t / 13 : Nat) : Int) by omega)]
        by_cases hs : ((u / 13 : Nat) : Int) = ((t / 13 : Nat) : Int)
        · rw [decide_eq_true hs, decide_eq_false (show ¬ ((u % 13 : Nat) : Int) ≤ ((t % 13 : Nat) : Int) by omega)]; rfl
        · rw [decide_eq_false hs]; rfl
    exact ⟨_, _, _, hgo, codes0, .inl ⟨rfl, i + 1, rfl, by omega, by omega, rfl⟩⟩
  · rw [decide_eq_false (show ¬ (i : Int) < (xs.length : Nat) by omega), cond_false] at h
    exact ⟨_, _, _, h, codes0, .inr ⟨by simp, rfl⟩⟩
/-! ### the cards of a suit -/
theorem co_round3 (rd : Option Nat) (m n i s : Int) (b : Bool) (g xs ys : List Int) : roundT Tryd.prog (orcW tabD plainL) noLoops 100 1 rd 6 coLp3 coT3 coX3 [.i m, .b b, .i s, .i n, .i i, .l g, .l xs, .l ys] =
    bif decide (i < n) then coAt xs i fun c => bif decide (suitI c = s) then bif decide ((ys ++ [c]).length * 2 ≤ 70368744177664) then
        some (.normal, [.i m, .b b, .i s, .i n, .i (wr .i64 (i + 1)), .l g, .l xs, .l (ys ++ [c])], []) else none
      else some (.normal, [.i m, .b b, .i s, .i n, .i (wr .i64 (i + 1)), .l g, .l xs, .l ys], [])
    else some (.exit 4, [.i m, .b b, .i s, .l g, .l xs, .l ys], []) := by kernel_rfl
theorem co_loop3 (rd : Option Nat) (m s : Nat) (b : Bool) (g : List Int) (xs : List Int) (hlen : xs.length ≤ 52) : ∀ x : Nat × List Int, (x.1 ≤ xs.length ∧ x.2.length ≤ x.1) →
    SimC Tryd.prog 1 rd (.loop coLp3) (coT3.at [.i (m : Int), .b b, .i (s : Int), .i (xs.length : Nat), .i (x.1 : Int), .l g, .l xs, .l x.2]) (.exit 4)
      (coX3.at [.i (m : Int), .b b, .i (s : Int), .l g, .l xs, .l (x.2 ++ (xs.drop x.1).filter fun c => decide (suitI c = (s : Int)))]) := by
  refine loop_of_rounds (C := orcW tabD plainL) (L := noLoops) (N := 100) (me := 6) (T := coT3) (T' := coX3) (orcW_ok tabD_ok plainL_ok) mixed noLoops_ok (by kernel_rfl) (by kernel_rfl) (X := Nat × List Int)
    (fun x => [.i (m : Int), .b b, .i (s : Int), .i (xs.length : Nat), .i (x.1 : Int), .l g, .l xs, .l x.2]) (fun x => x.1 ≤ xs.length ∧ x.2.length ≤ x.1) (fun x => xs.length - x.1)
    (fun x => (.exit 4, [.i (m : Int), .b b, .i (s : Int), .l g, .l xs, .l (x.2 ++ (xs.drop x.1).filter fun c => decide (suitI c = (s : Int)))])) ?_
  rintro ⟨i, ys⟩ ⟨hi, hy⟩
  dsimp only at hi hy ⊢
  have h := co_round3 rd m xs.length i s b g xs ys
  by_cases hlt : i < xs.length
  · have w1 : wr .i64 ((i : Int) + 1) = ((i + 1 : Nat) : Int) := by rw [wr64 (by omega) (by omega)]; omega
    have hc : xs[i]? = some xs[i] := List.getElem?_eq_getElem hlt
    have hdr : xs.drop i = xs[i] :: xs.drop (i + 1) := List.drop_eq_getElem_cons hlt
    generalize xs[i] = c at hc hdr
    rw [decide_eq_true (show (i : Int) < (xs.length : Nat) by omega), cond_true, coAt_some hc, w1] at h
    by_cases hsc : suitI c = (s : Int)
    · rw [decide_eq_true hsc, decide_eq_true (show (ys ++ [c]).length * 2 ≤ 70368744177664 by simp; omega)] at h
      refine ⟨_, _, _, h, codes0, .inl ⟨rfl, (i + 1, ys ++ [c]), rfl, ⟨by dsimp only; omega, by dsimp only; simp; omega⟩, by dsimp only; omega, ?_⟩⟩
      dsimp only
      rw [hdr]
      simp [hsc]
    · rw [decide_eq_false hsc] at h
      refine ⟨_, _, _, h, codes0, .inl ⟨rfl, (i + 1, ys), rfl, ⟨by dsimp only; omega, by dsimp only; omega⟩, by dsimp only; omega, ?_⟩⟩
      dsimp only
      rw [hdr]
      simp [hsc]
  · rw [decide_eq_false (show ¬ (i : Int) < (xs.length : Nat) by omega), cond_false] at h
    refine ⟨_, _, _, h, codes0, .inr ⟨by simp, ?_⟩⟩
    rw [List.drop_eq_nil_of_le (by omega)]
    simp
end Go.Proofs.YtbocdcnkmcejjaaDoor
