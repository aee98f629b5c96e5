/- Chapter 2, the reference: less and add, for every list of digits. -/
import Derived.Test.YtnbfnoomhlamnaaGreatNaR2
namespace Go.Proofs.YtnbfnoomhlamnaaGreat.N2
open Go Go.Eng
theorem D_lt_pow (m : Nat) : m < 10 ^ (D m).length := by
  have h1 := val_lt (dig_D m)
  rw [val_D] at h1
  have h2 : ((10 ^ (D m).length : Nat) : Int) = (10 : Int) ^ (D m).length := by rw [Int.natCast_pow]; rfl
  omega
theorem len_lt {m n : Nat} (h : (D m).length < (D n).length) : m < n := by
  apply Classical.byContradiction
  intro hn
  have h1 := D_len_lt (k := (D m).length) (n := n) (by have := D_lt_pow m; omega)
  omega
theorem ls_loop (n1 n2 : Bool) (rd : Option Nat) (m n : Nat) (hl : (D m).length = (D n).length) (hb : (D m).length ≤ 1000000) : ∀ k : Nat, (k ≤ (D m).length ∧ m / 10 ^ k = n / 10 ^ k) →
    SimC Tryz.prog 2 rd (.loop lsLp) ((lsT n1 n2).at [.b false, .i ((k : Int) - 1), .l (D m), .l (D n)]) (bif decide (m = n) then .exit 0 else .ret) ((lsX n1 n2).at [.b (decide (m < n)), .l (D m), .l (D n)]) := by
  refine loop_of_rounds (C := orcP tabA plainL) (L := noLoops) (N := 200) (me := 58) (T := lsT n1 n2) (T' := lsX n1 n2) (orcP_ok tabA_ok plainL_ok) mixed noLoops_ok (by cases n1 <;> cases n2 <;> kernel_rfl) (by cases n1 <;> cases n2 <;> kernel_rfl) (X := Nat)
    (fun k => [.b false, .i ((k : Int) - 1), .l (D m), .l (D n)]) (fun k => k ≤ (D m).length ∧ m / 10 ^ k = n / 10 ^ k) (fun k => k) (fun _ => ((bif decide (m = n) then .exit 0 else .ret), [.b (decide (m < n)), .l (D m), .l (D n)])) ?_
  rintro k ⟨hk, he⟩
  have h := ls_round n1 n2 rd false ((k : Int) - 1) (D m) (D n)
  cases k with
  | zero =>
    rw [Nat.pow_zero, Nat.div_one, Nat.div_one] at he
    subst he
    rw [decide_eq_false (by omega), cond_false] at h
    rw [decide_eq_true rfl, decide_eq_false (Nat.lt_irrefl _)]
    exact ⟨_, _, _, h, codes0, .inr ⟨by simp, rfl⟩⟩
  | succ k =>
    have g1 := D_get (m := m) (i := k)
    have g2 := D_get (m := n) (i := k)
    rw [if_pos (by omega)] at g1 g2
    have e1 : 10 * (m / 10 ^ (k + 1)) + m / 10 ^ k % 10 = m / 10 ^ k := by rw [Nat.pow_succ, ← Nat.div_div_eq_div_mul]; omega
    have e2 : 10 * (n / 10 ^ (k + 1)) + n / 10 ^ k % 10 = n / 10 ^ k := by rw [Nat.pow_succ, ← Nat.div_div_eq_div_mul]; omega
    have hi : (((k + 1 : Nat) : Int) - 1) = (k : Int) := by omega
    rw [hi, decide_eq_true (by omega), cond_true, atI_eq g1, atI_eq g2] at h
    rw [hi]
    by_cases hv : m / 10 ^ k % 10 = n / 10 ^ k % 10
    · rw [decide_eq_true (show ((m / 10 ^ k % 10 : Nat) : Int) = ((n / 10 ^ k % 10 : Nat) : Int) by omega), Bool.not_true, cond_false, wr64 (by omega) (by omega)] at h
      exact ⟨_, _, _, h, codes0, .inl ⟨rfl, k, rfl, ⟨by omega, by omega⟩, by omega, rfl⟩⟩
    · rw [decide_eq_false (show ¬ ((m / 10 ^ k % 10 : Nat) : Int) = ((n / 10 ^ k % 10 : Nat) : Int) by omega), Bool.not_false, cond_true, atI_eq g1, atI_eq g2] at h
      have hne : m ≠ n := fun e => hv (by rw [e])
      have hlt : decide (((m / 10 ^ k % 10 : Nat) : Int) < ((n / 10 ^ k % 10 : Nat) : Int)) = decide (m < n) := by
        rw [Bool.eq_iff_iff, decide_eq_true_eq, decide_eq_true_eq]
        constructor
        · intro hd
          apply Classical.byContradiction
          intro hn
          have := Nat.div_le_div_right (c := 10 ^ k) (Nat.le_of_not_lt hn)
          omega
        · intro hd
          have := Nat.div_le_div_right (c := 10 ^ k) (Nat.le_of_lt hd)
          omega
      rw [hlt] at h
      rw [decide_eq_false hne]
      exact ⟨_, _, _, h, codes0, .inr ⟨by simp, rfl⟩⟩
def okD (xs : List Int) : Bool := isD xs && decide (xs.length ≤ 1000000)
theorem okD_eq {xs : List Int} (h : okD xs = true) : ∃ m : Nat, xs = D m ∧ (D m).length ≤ 1000000 := by
  unfold okD at h
  simp only [Bool.and_eq_true, decide_eq_true_eq] at h
  obtain ⟨m, rfl⟩ := isD_eq h.1
  exact ⟨m, rfl, h.2⟩
theorem okD_D {m : Nat} (h : (D m).length ≤ 1000000) : okD (D m) = true := by unfold okD; rw [isD_D, decide_eq_true h]; rfl
def lsTree (n1 n2 : Bool) : List PV → Fin
  | [.b r, .i i, .l xs, .l ys] => .br (decide (r = false ∧ i = nI xs - 1 ∧ nI xs = nI ys) && (okD xs && okD ys)) (.br (decide (val xs = val ys)) (.leaf (.exit 0) ((lsX n1 n2).at [.b (decide (val xs < val ys)), .l xs, .l ys])) (.leaf .ret ((lsX n1 n2).at [.b (decide (val xs < val ys)), .l xs, .l ys]))) .no
  | _ => .no
noncomputable def lsL (n1 n2 : Bool) : Loops := sums (fun n => match n with | 4 => some (lsumF 2 (lsT n1 n2) lsLp (lsTree n1 n2)) | _ => none)
theorem lsL_ok (n1 n2 : Bool) : loopsOk Tryz.prog (lsL n1 n2) := by
  intro n g hg
  simp only [lsL, sums] at hg
  split at hg
  · cases hg
    refine lsumF_ok (by cases n1 <;> cases n2 <;> kernel_rfl) (fun rd ps e1 st1 hq => ?_)
    unfold lsTree at hq
    split at hq
    · rename_i r i xs ys
      simp only [Fin.pick] at hq
      cases hc : (decide (r = false ∧ i = nI xs - 1 ∧ nI xs = nI ys) && (okD xs && okD ys)) with
      | false => rw [hc] at hq; cases hq
      | true =>
        rw [hc, cond_true] at hq
        simp only [Bool.and_eq_true, decide_eq_true_eq] at hc
        obtain ⟨⟨rfl, rfl, hl⟩, hx, hy⟩ := hc
        obtain ⟨m, rfl, hm⟩ := okD_eq hx
        obtain ⟨n, rfl, hn⟩ := okD_eq hy
        rw [nI_eq, nI_eq] at hl
        have h0 : ∀ z : Nat, (D z).length = (D m).length → z / 10 ^ (D m).length = 0 := fun z hz => Nat.div_eq_of_lt (by rw [← hz]; exact D_lt_pow z)
        have := ls_loop n1 n2 rd m n (by omega) hm (D m).length ⟨Nat.le_refl _, by rw [h0 m rfl, h0 n (by omega)]⟩
        rw [val_D, val_D] at hq
        have d1 : decide ((m : Int) = (n : Int)) = decide (m = n) := by rw [Bool.eq_iff_iff, decide_eq_true_eq, decide_eq_true_eq]; omega
        have d2 : decide ((m : Int) < (n : Int)) = decide (m < n) := by rw [Bool.eq_iff_iff, decide_eq_true_eq, decide_eq_true_eq]; omega
        rw [d1, d2] at hq
        cases he : decide (m = n) with
        | true => rw [he, cond_true] at hq; cases hq; rw [he] at this; exact this
        | false => rw [he, cond_false] at hq; cases hq; rw [he] at this; exact this
    · cases hq
  · cases hg
theorem less_eval (n1 n2 : Bool) (xs ys : List Int) : evalFn Tryz.prog (orcP tabA plainL) (lsL n1 n2) 200 58 Tryz.f58 [.gs 0, .gs 1] [.rs n1 1 (.ints .i64 xs), .rs n2 1 (.ints .i64 ys)] keepB =
    bif !decide (nI xs = nI ys) then some (.bool (decide (nI xs < nI ys)), [.rs n1 1 (.ints .i64 xs), .rs n2 1 (.ints .i64 ys)]) else
    cond (codesB [(lsLp, lsLp)]) (bif decide (false = false ∧ wr .i64 (nI xs - 1) = nI xs - 1 ∧ nI xs = nI ys) && (okD xs && okD ys) then bif decide (val xs = val ys) then some (.bool false, [.rs n1 1 (.ints .i64 xs), .rs n2 1 (.ints .i64 ys)]) else some (.bool (decide (val xs < val ys)), [.rs n1 1 (.ints .i64 xs), .rs n2 1 (.ints .i64 ys)]) else none) none := by cases n1 <;> cases n2 <;> kernel_rfl
theorem less_fn (n1 n2 : Bool) {xs ys : List Int} (hx : okD xs = true) (hy : okD ys = true) : FnOK Tryz.prog 58 [.gs 0, .gs 1] [.rs n1 1 (.ints .i64 xs), .rs n2 1 (.ints .i64 ys)] (.bool (decide (val xs < val ys))) ([.rs n1 1 (.ints .i64 xs), .rs n2 1 (.ints .i64 ys)] ++ []) := by
  have he := less_eval n1 n2 xs ys
  obtain ⟨m, rfl, hm⟩ := okD_eq hx
  obtain ⟨n, rfl, hn⟩ := okD_eq hy
  have key : evalFn Tryz.prog (orcP tabA plainL) (lsL n1 n2) 200 58 Tryz.f58 [.gs 0, .gs 1] [.rs n1 1 (.ints .i64 (D m)), .rs n2 1 (.ints .i64 (D n))] keepB = some (.bool (decide (val (D m) < val (D n))), [.rs n1 1 (.ints .i64 (D m)), .rs n2 1 (.ints .i64 (D n))]) := by
    rw [he, nI_eq, nI_eq, val_D, val_D]
    by_cases hl : (D m).length = (D n).length
    · rw [decide_eq_true (show ((D m).length : Int) = ((D n).length : Int) by omega), Bool.not_true, cond_false, codesS, hx, hy, wr64 (by omega) (by omega), decide_eq_true ⟨rfl, rfl, by omega⟩]
      simp only [Bool.and_self, cond_true]
      by_cases h1 : (m : Int) = (n : Int)
      · rw [decide_eq_true h1, decide_eq_false (show ¬ (m : Int) < (n : Int) by omega)]; rfl
      · rw [decide_eq_false h1]; rfl
    · rw [decide_eq_false (show ¬ ((D m).length : Int) = ((D n).length : Int) by omega), Bool.not_false, cond_true]
      have : decide (((D m).length : Int) < ((D n).length : Int)) = decide ((m : Int) < (n : Int)) := by
        rw [Bool.eq_iff_iff, decide_eq_true_eq, decide_eq_true_eq]
        constructor
        · intro h
          have := len_lt (m := m) (n := n) (by omega)
          omega
        · intro h
          rcases Nat.lt_or_ge (D n).length (D m).length with h2 | h2
          · have := len_lt h2; omega
          · omega
      rw [this]
  obtain ⟨v1, h1, hk, hok⟩ := evalFn_ok (orcP_ok tabA_ok plainL_ok) mixed Tryz.func58 (lsL_ok n1 n2) key
  cases hk
  exact hok
/-! ### add -/
theorem D_drop (m : Nat) : ∀ i : Nat, (D m).drop i = D (m / 10 ^ i)
  | 0 => by simp
  | i + 1 => by
    rw [← List.drop_drop, D_drop m i, Nat.pow_succ, ← Nat.div_div_eq_div_mul]
    rcases Nat.eq_zero_or_pos (m / 10 ^ i) with h | h
    · rw [h]; rfl
    · rw [D_pos h]; rfl
theorem head_of {xs : List Int} {i m : Nat} (h : xs.drop i = D m) : (xs[i]? = if 0 < m then some ((m % 10 : Nat) : Int) else none) ∧ (i < xs.length ↔ 0 < m) ∧ xs.drop (i + 1) = D (m / 10) := by
  have h0 : xs[i]? = (xs.drop i)[0]? := by rw [List.getElem?_drop]; rfl
  have h1 : (xs.drop i).length = xs.length - i := List.length_drop ..
  rw [h] at h0 h1
  have h2 : xs.drop (i + 1) = (xs.drop i).drop 1 := by rw [List.drop_drop]
  rw [h] at h2
  rcases Nat.eq_zero_or_pos m with rfl | hp
  · exact ⟨by rw [h0]; rfl, by rw [D_zero] at h1; simp at h1; omega, by rw [h2]; rfl⟩
  · rw [D_pos hp] at h0 h1 h2
    exact ⟨by rw [h0, if_pos hp]; rfl, by simp at h1; omega, by rw [h2]; rfl⟩
structure AdX where
  c : Nat
  i : Nat
  m : Nat
  n : Nat
  zs : List Int
theorem ad_loop (n1 n2 : Bool) (rd : Option Nat) (xs ys : List Int) : ∀ x : AdX, (x.c ≤ 1 ∧ xs.drop x.i = D x.m ∧ ys.drop x.i = D x.n ∧ x.zs.length + (D (x.m + x.n + x.c)).length ≤ 2000000 ∧ x.i ≤ 2000000 ∧ x.i = x.zs.length) →
    SimC Tryz.prog 2 rd (.loop adLp) ((adT n1 n2).at [.i (x.c : Int), .i (x.i : Int), .l xs, .l ys, .l x.zs]) (.exit 0) ((adX n1 n2).at [.l xs, .l ys, .l (x.zs ++ D (x.m + x.n + x.c))]) := by
  refine loop_of_rounds (C := orcP tabA plainL) (L := noLoops) (N := 200) (me := 63) (T := adT n1 n2) (T' := adX n1 n2) (orcP_ok tabA_ok plainL_ok) mixed noLoops_ok (by cases n1 <;> cases n2 <;> kernel_rfl) (by cases n1 <;> cases n2 <;> kernel_rfl) (X := AdX)
    (fun x => [.i (x.c : Int), .i (x.i : Int), .l xs, .l ys, .l x.zs]) (fun x => x.c ≤ 1 ∧ xs.drop x.i = D x.m ∧ ys.drop x.i = D x.n ∧ x.zs.length + (D (x.m + x.n + x.c)).length ≤ 2000000 ∧ x.i ≤ 2000000 ∧ x.i = x.zs.length) (fun x => x.m + x.n + x.c)
    (fun x => (.exit 0, [.l xs, .l ys, .l (x.zs ++ D (x.m + x.n + x.c))])) ?_
  rintro ⟨c, i, m, n, zs⟩ ⟨hc, hx, hy, hl, hi, hz⟩
  dsimp only at hc hx hy hl hi hz ⊢
  obtain ⟨gx, lx, dx⟩ := head_of hx
  obtain ⟨gy, ly, dy⟩ := head_of hy
  have h := ad_round n1 n2 rd c i xs ys zs
  rw [nI_eq, nI_eq] at h
  -- what one round does, if there is anything left
  have main : 0 < m + n + c → adA (i : Int) xs ys zs (c : Int) = some (.normal, [.i (((m + n + c) / 10 - m / 10 - n / 10 : Nat) : Int), .i ((i + 1 : Nat) : Int), .l xs, .l ys, .l (zs ++ [(((m + n + c) % 10 : Nat) : Int)])], []) := by
    intro hp
    have hD := D_pos hp
    rw [hD, List.length_cons] at hl
    have fin : ∀ t : Nat, t % 10 = (m + n + c) % 10 → t / 10 = (m + n + c) / 10 - m / 10 - n / 10 → t < 100 → adK (i : Int) xs ys zs (t : Int) = some (.normal, [.i (((m + n + c) / 10 - m / 10 - n / 10 : Nat) : Int), .i ((i + 1 : Nat) : Int), .l xs, .l ys, .l (zs ++ [(((m + n + c) % 10 : Nat) : Int)])], []) := by
      intro t h1 h2 h3
      unfold adK
      rw [tmod10, tdiv10, fitL_true (by rw [List.length_append, List.length_singleton]; omega), cond_true, wr64 (by omega) (by omega), wr64 (by omega) (by omega), h1, h2]
      rfl
    have hB : ∀ t : Nat, t < 50 → (t + n % 10) % 10 = (m + n + c) % 10 → (t + n % 10) / 10 = (m + n + c) / 10 - m / 10 - n / 10 → adB (i : Int) xs ys zs (t : Int) = some (.normal, [.i (((m + n + c) / 10 - m / 10 - n / 10 : Nat) : Int), .i ((i + 1 : Nat) : Int), .l xs, .l ys, .l (zs ++ [(((m + n + c) % 10 : Nat) : Int)])], []) := by
      intro t h0 h1 h2
      unfold adB
      rw [nI_eq]
      by_cases hn : 0 < n
      · rw [if_pos hn] at gy
        rw [decide_eq_true (by omega), cond_true, atI_eq gy, show (t : Int) + ((n % 10 : Nat) : Int) = ((t + n % 10 : Nat) : Int) by omega, wr64 (by omega) (by omega)]
        exact fin _ h1 h2 (by omega)
      · rw [decide_eq_false (by omega), cond_false]
        exact fin _ (by rw [show n = 0 by omega] at h1 ⊢; simpa using h1) (by rw [show n = 0 by omega] at h2 ⊢; simpa using h2) (by omega)
    unfold adA
    rw [nI_eq]
    by_cases hm : 0 < m
    · rw [if_pos hm] at gx
      rw [decide_eq_true (by omega), cond_true, atI_eq gx, show (c : Int) + ((m % 10 : Nat) : Int) = ((c + m % 10 : Nat) : Int) by omega, wr64 (by omega) (by omega)]
      exact hB _ (by omega) (by omega) (by omega)
    · rw [decide_eq_false (by omega), cond_false]
      exact hB _ (by omega) (by omega) (by omega)
  by_cases h0 : 0 < m + n + c
  · rw [main h0] at h
    have hD := D_pos h0
    have hl2 := hl
    rw [hD, List.length_cons] at hl2
    have h' : roundT Tryz.prog (orcP tabA plainL) noLoops 200 2 rd 63 adLp (adT n1 n2) (adX n1 n2) [.i (c : Int), .i (i : Int), .l xs, .l ys, .l zs] = some (.normal, [.i (((m + n + c) / 10 - m / 10 - n / 10 : Nat) : Int), .i ((i + 1 : Nat) : Int), .l xs, .l ys, .l (zs ++ [(((m + n + c) % 10 : Nat) : Int)])], []) := by
      rw [h]
      by_cases hm : 0 < m
      · rw [decide_eq_true (show (i : Int) < (xs.length : Int) by omega)]; rfl
      · rw [decide_eq_false (show ¬ (i : Int) < (xs.length : Int) by omega)]
        by_cases hn : 0 < n
        · rw [decide_eq_true (show (i : Int) < (ys.length : Int) by omega)]; rfl
        · rw [decide_eq_false (show ¬ (i : Int) < (ys.length : Int) by omega), decide_eq_true (show (0 : Int) < (c : Int) by omega)]; rfl
    have hsum : m / 10 + n / 10 + ((m + n + c) / 10 - m / 10 - n / 10) = (m + n + c) / 10 := by omega
    refine ⟨_, _, _, h', codes0, .inl ⟨rfl, ⟨(m + n + c) / 10 - m / 10 - n / 10, i + 1, m / 10, n / 10, zs ++ [(((m + n + c) % 10 : Nat) : Int)]⟩, rfl, ⟨by dsimp only; omega, dx, dy, ?_, by dsimp only; omega, by dsimp only; rw [List.length_append, List.length_singleton]; omega⟩, by dsimp only; omega, ?_⟩⟩
    · dsimp only
      rw [hsum, List.length_append, List.length_singleton]; omega
    · dsimp only
      rw [hsum, hD, List.append_assoc]; rfl
  · have hm : m = 0 := by omega
    have hn : n = 0 := by omega
    have hc0 : c = 0 := by omega
    subst hm; subst hn; subst hc0
    rw [decide_eq_false (by omega), decide_eq_false (by omega), decide_eq_false (by omega), cond_false, cond_false, cond_false] at h
    rw [D_zero, List.append_nil]
    exact ⟨_, _, _, h, codes0, .inr ⟨by simp, rfl⟩⟩
end Go.Proofs.YtnbfnoomhlamnaaGreat.N2
