/- Chapter 2, the reference: add's contract; sub. -/
import Derived.Test.YtnbfnoomhlamnaaGreatNaR4
namespace Go.Proofs.YtnbfnoomhlamnaaGreat.N2
open Go Go.Eng
def sumD (xs ys : List Int) : List Int := D (val xs + val ys).toNat
def adTree (n1 n2 : Bool) : List PV → Fin
  | [.i c, .i i, .l xs, .l ys, .l zs] => .br (decide (c = 0 ∧ i = 0 ∧ zs.length = 0) && (okD xs && okD ys)) (.leaf (.exit 0) ((adX n1 n2).at [.l xs, .l ys, .l (sumD xs ys)])) .no
  | _ => .no
noncomputable def adL (n1 n2 : Bool) : Loops := sums (fun n => match n with | 4 => some (lsumF 2 (adT n1 n2) adLp (adTree n1 n2)) | _ => none)
theorem len_add {K m n : Nat} (hm : (D m).length ≤ K) (hn : (D n).length ≤ K) : (D (m + n)).length ≤ K + 1 := by
  have h1 := D_lt_pow m
  have h2 := D_lt_pow n
  have h3 := Nat.pow_le_pow_right (n := 10) (by decide) hm
  have h4 := Nat.pow_le_pow_right (n := 10) (by decide) hn
  refine D_len_lt ?_
  rw [Nat.pow_succ]
  omega
theorem adL_ok (n1 n2 : Bool) : loopsOk Tryz.prog (adL n1 n2) := by
  intro n g hg
  simp only [adL, sums] at hg
  split at hg
  · cases hg
    refine lsumF_ok (by cases n1 <;> cases n2 <;> kernel_rfl) (fun rd ps e1 st1 hq => ?_)
    unfold adTree at hq
    split at hq
    · rename_i c i xs ys zs
      simp only [Fin.pick] at hq
      cases hc : (decide (c = 0 ∧ i = 0 ∧ zs.length = 0) && (okD xs && okD ys)) with
      | false => rw [hc] at hq; cases hq
      | true =>
        rw [hc, cond_true] at hq
        cases hq
        simp only [Bool.and_eq_true, decide_eq_true_eq] at hc
        obtain ⟨⟨rfl, rfl, hz⟩, hx, hy⟩ := hc
        have hz := List.eq_nil_of_length_eq_zero hz
        subst hz
        obtain ⟨m, rfl, hm⟩ := okD_eq hx
        obtain ⟨n, rfl, hn⟩ := okD_eq hy
        have := ad_loop n1 n2 rd (D m) (D n) ⟨0, 0, m, n, []⟩ ⟨by dsimp only; omega, rfl, rfl, by have := len_add hm hn; dsimp only [List.length_nil, Nat.add_zero]; omega, by dsimp only; omega, rfl⟩
        dsimp only [Nat.add_zero, List.nil_append] at this
        unfold sumD
        rw [val_D, val_D, show ((m : Int) + (n : Int)).toNat = m + n by omega]
        exact this
    · cases hq
  · cases hg
theorem add_eval67 (n1 n2 : Bool) (xs ys : List Int) : evalFn Tryz.prog (orcP tabA plainL) (adL n1 n2) 200 63 Tryz.f63 [.gs 0, .gs 1] [.rs n1 1 (.ints .i64 xs), .rs n2 1 (.ints .i64 ys)] keepB =
    cond (codesB [(adLp, adLp)]) (bif decide ((0 : Int) = 0 ∧ (0 : Int) = 0 ∧ 0 = 0) && (okD xs && okD ys) then some (.gs 2, [.rs n1 1 (.ints .i64 xs), .rs n2 1 (.ints .i64 ys), .grow false 3 1 (.ints .i64 (sumD xs ys))]) else none) none := by cases n1 <;> cases n2 <;> kernel_rfl
theorem add67_fn (n1 n2 : Bool) {xs ys : List Int} (hx : okD xs = true) (hy : okD ys = true) : FnOK Tryz.prog 63 [.gs 0, .gs 1] [.rs n1 1 (.ints .i64 xs), .rs n2 1 (.ints .i64 ys)] (.gs 2) ([.rs n1 1 (.ints .i64 xs), .rs n2 1 (.ints .i64 ys)] ++ [.grow false 3 1 (.ints .i64 (sumD xs ys))]) := by
  have he := add_eval67 n1 n2 xs ys
  rw [codesS, hx, hy, decide_eq_true (show (0 : Int) = 0 ∧ (0 : Int) = 0 ∧ 0 = 0 from ⟨rfl, rfl, rfl⟩)] at he
  obtain ⟨v1, h1, hk, hok⟩ := evalFn_ok (orcP_ok tabA_ok plainL_ok) mixed Tryz.func63 (adL_ok n1 n2) (show _ = some (V.gs 2, _) from he)
  cases hk
  exact hok
/-! ### sub -/
def sbW : Nat → Nat → Nat → Nat → List Int
  | 0, _, _, _ => []
  | k + 1, m, n, c => (((if m % 10 < n % 10 + c then 10 else 0) + m % 10 - (n % 10 + c) : Nat) : Int) :: sbW k (m / 10) (n / 10) (if m % 10 < n % 10 + c then 1 else 0)
theorem sbW_len : ∀ k m n c : Nat, (sbW k m n c).length = k
  | 0, _, _, _ => rfl
  | k + 1, m, n, c => by rw [sbW, List.length_cons, sbW_len]
theorem sbW_dig : ∀ k m n c : Nat, c ≤ 1 → dig (sbW k m n c) = true
  | 0, _, _, _, _ => rfl
  | k + 1, m, n, c, hc => by
    rw [sbW, dig_cons]
    refine ⟨?_, sbW_dig k _ _ _ (by split <;> omega)⟩
    split <;> omega
theorem sbW_val : ∀ k m n c : Nat, c ≤ 1 → n + c ≤ m → m < 10 ^ k → val (sbW k m n c) = ((m - n - c : Nat) : Int)
  | 0, m, n, c, _, h, hm => by
    have : m = 0 := by simpa using hm
    subst this
    simp [sbW, val]
  | k + 1, m, n, c, hc, h, hm => by
    rw [Nat.pow_succ] at hm
    rw [sbW]
    simp only [val]
    by_cases hb : m % 10 < n % 10 + c
    · rw [if_pos hb, if_pos hb, sbW_val k (m / 10) (n / 10) 1 (by omega) (by omega) (by omega)]; omega
    · rw [if_neg hb, if_neg hb, sbW_val k (m / 10) (n / 10) 0 (by omega) (by omega) (by omega)]; omega
theorem sb_loop (n1 n2 : Bool) (rd : Option Nat) (xs ys : List Int) : ∀ x : AdX, (x.c ≤ 1 ∧ xs.drop x.i = D x.m ∧ ys.drop x.i = D x.n ∧ x.zs.length + (D x.m).length ≤ 1000000 ∧ x.i = x.zs.length) →
    SimC Tryz.prog 2 rd (.loop sbLp) ((sbT n1 n2).at [.i (x.c : Int), .i (x.i : Int), .l xs, .l ys, .l x.zs]) (.exit 0) ((sbX n1 n2).at [.l xs, .l ys, .l (x.zs ++ sbW (D x.m).length x.m x.n x.c)]) := by
  refine loop_of_rounds (C := orcP tabA plainL) (L := noLoops) (N := 200) (me := 88) (T := sbT n1 n2) (T' := sbX n1 n2) (orcP_ok tabA_ok plainL_ok) mixed noLoops_ok (by cases n1 <;> cases n2 <;> kernel_rfl) (by cases n1 <;> cases n2 <;> kernel_rfl) (X := AdX)
    (fun x => [.i (x.c : Int), .i (x.i : Int), .l xs, .l ys, .l x.zs]) (fun x => x.c ≤ 1 ∧ xs.drop x.i = D x.m ∧ ys.drop x.i = D x.n ∧ x.zs.length + (D x.m).length ≤ 1000000 ∧ x.i = x.zs.length) (fun x => x.m)
    (fun x => (.exit 0, [.l xs, .l ys, .l (x.zs ++ sbW (D x.m).length x.m x.n x.c)])) ?_
  rintro ⟨c, i, m, n, zs⟩ ⟨hc, hx, hy, hl, hz⟩
  dsimp only at hc hx hy hl hz ⊢
  obtain ⟨gx, lx, dx⟩ := head_of hx
  obtain ⟨gy, ly, dy⟩ := head_of hy
  have h := sb_round n1 n2 rd c i xs ys zs
  rw [nI_eq, nI_eq] at h
  by_cases hm : 0 < m
  · have hD := D_pos hm
    rw [hD, List.length_cons] at hl
    rw [if_pos hm] at gx
    rw [decide_eq_true (show (i : Int) < (xs.length : Int) by omega), cond_true, atI_eq gx] at h
    have fin : ∀ t : Int, t = ((m % 10 : Nat) : Int) - ((n % 10 + c : Nat) : Int) → sbK (i : Int) xs ys zs t = some (.normal, [.i (((if m % 10 < n % 10 + c then 1 else 0 : Nat)) : Int), .i ((i + 1 : Nat) : Int), .l xs, .l ys, .l (zs ++ [(((if m % 10 < n % 10 + c then 10 else 0) + m % 10 - (n % 10 + c) : Nat) : Int)])], []) := by
      intro t ht
      unfold sbK
      by_cases hb : m % 10 < n % 10 + c
      · rw [decide_eq_true (by omega), cond_true, if_pos hb, if_pos hb, fitL_true (by rw [List.length_append, List.length_singleton]; omega), cond_true, wr64 (x := t + 10) (by omega) (by omega), wr64 (x := (i : Int) + 1) (by omega) (by omega), show t + 10 = ((10 + m % 10 - (n % 10 + c) : Nat) : Int) by omega]
        rfl
      · rw [decide_eq_false (by omega), cond_false, if_neg hb, if_neg hb, fitL_true (by rw [List.length_append, List.length_singleton]; omega), cond_true, wr64 (x := (i : Int) + 1) (by omega) (by omega), show t = ((0 + m % 10 - (n % 10 + c) : Nat) : Int) by omega]
        rfl
    have h' : roundT Tryz.prog (orcP tabA plainL) noLoops 200 2 rd 88 sbLp (sbT n1 n2) (sbX n1 n2) [.i (c : Int), .i (i : Int), .l xs, .l ys, .l zs] = some (.normal, [.i (((if m % 10 < n % 10 + c then 1 else 0 : Nat)) : Int), .i ((i + 1 : Nat) : Int), .l xs, .l ys, .l (zs ++ [(((if m % 10 < n % 10 + c then 10 else 0) + m % 10 - (n % 10 + c) : Nat) : Int)])], []) := by
      rw [h]
      by_cases hn : 0 < n
      · rw [if_pos hn] at gy
        rw [decide_eq_true (show (i : Int) < (ys.length : Int) by omega), cond_true, atI_eq gy, wr64 (x := ((m % 10 : Nat) : Int) - (c : Int)) (by omega) (by omega), wr64 (by omega) (by omega)]
        exact fin _ (by omega)
      · rw [decide_eq_false (show ¬ (i : Int) < (ys.length : Int) by omega), cond_false, wr64 (by omega) (by omega)]
        exact fin _ (by omega)
    refine ⟨_, _, _, h', codes0, .inl ⟨rfl, ⟨if m % 10 < n % 10 + c then 1 else 0, i + 1, m / 10, n / 10, zs ++ [(((if m % 10 < n % 10 + c then 10 else 0) + m % 10 - (n % 10 + c) : Nat) : Int)]⟩, rfl, ⟨by dsimp only; split <;> omega, dx, dy, by dsimp only; rw [List.length_append, List.length_singleton]; omega, by dsimp only; rw [List.length_append, List.length_singleton]; omega⟩, by dsimp only; omega, ?_⟩⟩
    dsimp only
    rw [hD, List.length_cons, sbW, List.append_assoc]; rfl
  · have hm0 : m = 0 := by omega
    subst hm0
    rw [decide_eq_false (show ¬ (i : Int) < (xs.length : Int) by omega), cond_false] at h
    rw [D_zero, List.length_nil, sbW, List.append_nil]
    exact ⟨_, _, _, h, codes0, .inr ⟨by simp, rfl⟩⟩
end Go.Proofs.YtnbfnoomhlamnaaGreat.N2
