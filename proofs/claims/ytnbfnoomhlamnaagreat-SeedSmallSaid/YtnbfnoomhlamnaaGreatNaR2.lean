/- Texts merged: NaR2, NaR3. -/
import Derived.Test.YtnbfnoomhlamnaaGreatNaTr2
import Derived.Test.YtnbfnoomhlamnaaGreatNaNat3
/- Chapter 2, the reference: of, value, add, less: one round each. -/
namespace Go.Proofs.YtnbfnoomhlamnaaGreat.N2
open Go Go.Eng
def nI (l : List Int) : Int := Int.ofNat l.length
def fitL (l : List Int) : Bool := decide (l.length * 9 ≤ 70368744177664)
def atI (l : List Int) (i : Int) (K : Int → RT) : RT := bif decide (0 ≤ i ∧ i < nI l) then oK l[i.toNat]? K else none
theorem of_round (rd : Option Nat) (c : Int) (zs : List Int) : roundT Tryz.prog (orcP tabA plainL) noLoops 200 0 rd 60 ofLp ofT ofX [.i c, .l zs] =
    bif decide (0 < c) then bif fitL (zs ++ [c.tmod 10]) then some (.normal, [.i (wr .i64 (c.tdiv 10)), .l (zs ++ [c.tmod 10])], []) else none else some (.exit 0, [.l zs], []) := by kernel_rfl
theorem vl_round (n1 : Bool) (rd : Option Nat) (c i : Int) (xs : List Int) : roundT Tryz.prog (orcP tabA plainL) noLoops 200 1 rd 87 vlLp (vlT n1) (vlX n1) [.i c, .i i, .l xs] =
    bif decide (0 ≤ i) then atI xs i (fun v => some (.normal, [.i (wr .i64 (wr .i64 (10 * c) + v)), .i (wr .i64 (i - 1)), .l xs], [])) else some (.exit 0, [.i c, .l xs], []) := by cases n1 <;> kernel_rfl
theorem ls_round (n1 n2 : Bool) (rd : Option Nat) (r : Bool) (i : Int) (xs ys : List Int) : roundT Tryz.prog (orcP tabA plainL) noLoops 200 2 rd 58 lsLp (lsT n1 n2) (lsX n1 n2) [.b r, .i i, .l xs, .l ys] =
    bif decide (0 ≤ i) then atI xs i (fun v => atI ys i (fun u => bif !decide (v = u) then atI xs i (fun v2 => atI ys i (fun u2 => some (.ret, [.b (decide (v2 < u2)), .l xs, .l ys], []))) else
      some (.normal, [.b r, .i (wr .i64 (i - 1)), .l xs, .l ys], []))) else some (.exit 0, [.b r, .l xs, .l ys], []) := by cases n1 <;> cases n2 <;> kernel_rfl
def adK (i : Int) (xs ys zs : List Int) (c : Int) : RT := bif fitL (zs ++ [c.tmod 10]) then some (.normal, [.i (wr .i64 (c.tdiv 10)), .i (wr .i64 (i + 1)), .l xs, .l ys, .l (zs ++ [c.tmod 10])], []) else none
def adB (i : Int) (xs ys zs : List Int) (c : Int) : RT := bif decide (i < nI ys) then atI ys i (fun v => adK i xs ys zs (wr .i64 (c + v))) else adK i xs ys zs c
def adA (i : Int) (xs ys zs : List Int) (c : Int) : RT := bif decide (i < nI xs) then atI xs i (fun v => adB i xs ys zs (wr .i64 (c + v))) else adB i xs ys zs c
theorem ad_round (n1 n2 : Bool) (rd : Option Nat) (c i : Int) (xs ys zs : List Int) : roundT Tryz.prog (orcP tabA plainL) noLoops 200 2 rd 63 adLp (adT n1 n2) (adX n1 n2) [.i c, .i i, .l xs, .l ys, .l zs] =
    bif decide (i < nI xs) then adA i xs ys zs c else bif decide (i < nI ys) then adA i xs ys zs c else bif decide (0 < c) then adA i xs ys zs c else some (.exit 0, [.l xs, .l ys, .l zs], []) := by cases n1 <;> cases n2 <;> kernel_rfl
def sbK (i : Int) (xs ys zs : List Int) (x : Int) : RT := bif decide (x < 0) then bif fitL (zs ++ [wr .i64 (x + 10)]) then some (.normal, [.i 1, .i (wr .i64 (i + 1)), .l xs, .l ys, .l (zs ++ [wr .i64 (x + 10)])], []) else none else
  bif fitL (zs ++ [x]) then some (.normal, [.i 0, .i (wr .i64 (i + 1)), .l xs, .l ys, .l (zs ++ [x])], []) else none
theorem sb_round (n1 n2 : Bool) (rd : Option Nat) (c i : Int) (xs ys zs : List Int) : roundT Tryz.prog (orcP tabA plainL) noLoops 200 2 rd 88 sbLp (sbT n1 n2) (sbX n1 n2) [.i c, .i i, .l xs, .l ys, .l zs] =
    bif decide (i < nI xs) then atI xs i (fun v => bif decide (i < nI ys) then atI ys i (fun u => sbK i xs ys zs (wr .i64 (wr .i64 (v - c) - u))) else sbK i xs ys zs (wr .i64 (v - c))) else some (.exit 0, [.l xs, .l ys, .l zs], []) := by cases n1 <;> cases n2 <;> kernel_rfl
def mlK (c i : Int) (xs ys zs : List Int) (v x y : Int) : RT := bif decide (0 ≤ wr .i64 (c + i) ∧ wr .i64 (c + i) < nI zs) then bif decide ((wr .i64 (c + i)).toNat < zs.length) then
  some (.normal, [.i c, .i (wr .i64 (i + 1)), .l xs, .l ys, .l (zs.set (wr .i64 (c + i)).toNat (wr .i64 (v + wr .i64 (x * y))))], []) else none else none
theorem ml_round2 (n1 n2 : Bool) (rd : Option Nat) (c i : Int) (xs ys zs : List Int) : roundT Tryz.prog (orcP tabA plainL) noLoops 200 2 rd 61 mlLp2 (mlT2 n1 n2) (mlT1 n1 n2) [.i c, .i i, .l xs, .l ys, .l zs] =
    bif decide (i < nI ys) then atI zs (wr .i64 (c + i)) (fun v => atI xs c (fun x => atI ys i (fun y => mlK c i xs ys zs v x y))) else some (.exit 2, [.i c, .l xs, .l ys, .l zs], []) := by cases n1 <;> cases n2 <;> kernel_rfl
theorem ml_round3 (n1 n2 : Bool) (rd : Option Nat) (c i : Int) (xs ys zs : List Int) : roundT Tryz.prog (orcP tabA plainL) noLoops 200 2 rd 61 mlLp3 (mlT3 n1 n2) (mlX1 n1 n2) [.i c, .i i, .l xs, .l ys, .l zs] =
    bif decide (i < nI zs) then atI zs i (fun v => bif decide (0 ≤ i ∧ i < nI zs) then bif decide (i.toNat < zs.length) then
      some (.normal, [.i (wr .i64 ((wr .i64 (c + v)).tdiv 10)), .i (wr .i64 (i + 1)), .l xs, .l ys, .l (zs.set i.toNat ((wr .i64 (c + v)).tmod 10))], []) else none else none) else some (.exit 4, [.l xs, .l ys, .l zs], []) := by cases n1 <;> cases n2 <;> kernel_rfl
end Go.Proofs.YtnbfnoomhlamnaaGreat.N2

/- Chapter 2, the reference: of, value, less, add, for every list of digits. -/
namespace Go.Proofs.YtnbfnoomhlamnaaGreat.N2
open Go Go.Eng
/-- No list of the reference is longer. -/
abbrev LB : Nat := 1000000
theorem fitL_true {l : List Int} (h : l.length ≤ 2000000) : fitL l = true := by unfold fitL; rw [decide_eq_true (by omega)]
theorem tmod10 (n : Nat) : ((n : Int)).tmod 10 = ((n % 10 : Nat) : Int) := by rw [Int.tmod_eq_emod_of_nonneg (by omega)]; rfl
theorem tdiv10 (n : Nat) : ((n : Int)).tdiv 10 = ((n / 10 : Nat) : Int) := by rw [Int.tdiv_eq_ediv_of_nonneg (by omega)]; rfl
theorem nI_eq (l : List Int) : nI l = (l.length : Int) := rfl
theorem atI_eq {l : List Int} {i : Nat} {v : Int} (h : l[i]? = some v) (K : Int → RT) : atI l (i : Int) K = K v := by
  obtain ⟨hlt, _⟩ := List.getElem?_eq_some_iff.1 h
  unfold atI
  rw [nI_eq, decide_eq_true (by omega), cond_true, show ((i : Int)).toNat = i from rfl, h, oK_some]
/-! ### of -/
theorem of_loop (rd : Option Nat) : ∀ x : Nat × List Int, (x.1 < 9223372036854775808 ∧ x.2.length + (D x.1).length ≤ 1000000) →
    SimC Tryz.prog 0 rd (.loop ofLp) (ofT.at [.i (x.1 : Int), .l x.2]) (.exit 0) (ofX.at [.l (x.2 ++ D x.1)]) := by
  refine loop_of_rounds (C := orcP tabA plainL) (L := noLoops) (N := 200) (me := 60) (T := ofT) (T' := ofX) (orcP_ok tabA_ok plainL_ok) mixed noLoops_ok (by kernel_rfl) (by kernel_rfl) (X := Nat × List Int)
    (fun x => [.i (x.1 : Int), .l x.2]) (fun x => x.1 < 9223372036854775808 ∧ x.2.length + (D x.1).length ≤ 1000000) (fun x => x.1) (fun x => (.exit 0, [.l (x.2 ++ D x.1)])) ?_
  rintro ⟨c, zs⟩ ⟨hc, hl⟩
  dsimp only at hc hl ⊢
  have h := of_round rd c zs
  rcases Nat.eq_zero_or_pos c with rfl | hp
  · rw [decide_eq_false (by omega), cond_false] at h
    rw [D_zero, List.append_nil]
    exact ⟨_, _, _, h, codes0, .inr ⟨by simp, rfl⟩⟩
  · have hD := D_pos hp
    rw [hD, List.length_cons] at hl
    rw [tmod10, tdiv10, decide_eq_true (by omega), fitL_true (by rw [List.length_append, List.length_singleton]; omega), cond_true, cond_true, wr64 (by omega) (by omega)] at h
    refine ⟨_, _, _, h, codes0, .inl ⟨rfl, (c / 10, zs ++ [((c % 10 : Nat) : Int)]), rfl, ⟨by dsimp only; omega, by dsimp only; rw [List.length_append, List.length_singleton]; omega⟩, by dsimp only; omega, ?_⟩⟩
    dsimp only
    rw [hD, List.append_assoc]; rfl
def ofTree : List PV → Fin
  | [.i c, .l zs] => .br (decide (0 ≤ c ∧ c < 9223372036854775808 ∧ zs.length = 0)) (.leaf (.exit 0) (ofX.at [.l (D c.toNat)])) .no
  | _ => .no
noncomputable def ofL : Loops := sums (fun n => match n with | 2 => some (lsumF 0 ofT ofLp ofTree) | _ => none)
theorem D_small {n : Nat} (h : n < 9223372036854775808) : (D n).length ≤ 19 := D_len_lt (Nat.lt_trans h (by decide))
theorem ofL_ok : loopsOk Tryz.prog ofL := by
  intro n g hg
  simp only [ofL, sums] at hg
  split at hg
  · cases hg
    refine lsumF_ok (by kernel_rfl) (fun rd ps e1 st1 hq => ?_)
    unfold ofTree at hq
    split at hq
    · rename_i c zs
      simp only [Fin.pick] at hq
      cases hc : decide (0 ≤ c ∧ c < 9223372036854775808 ∧ zs.length = 0) with
      | false => rw [hc] at hq; cases hq
      | true =>
        rw [hc, cond_true] at hq
        cases hq
        obtain ⟨h1, h2, h3⟩ := of_decide_eq_true hc
        have hz := List.eq_nil_of_length_eq_zero h3
        subst hz
        have := of_loop rd (c.toNat, []) ⟨by dsimp only; omega, by have := D_small (n := c.toNat) (by omega); dsimp only [List.length_nil]; omega⟩
        dsimp only at this
        rw [show ((c.toNat : Nat) : Int) = c by omega] at this
        exact this
    · cases hq
  · cases hg
theorem of51_eval (n : Int) : evalFn Tryz.prog (orcP tabA plainL) ofL 200 60 Tryz.f60 [.int .i64 n] [] keepB =
    cond (codesB [(ofLp, ofLp)]) (bif decide (0 ≤ n ∧ n < 9223372036854775808 ∧ 0 = 0) then some (.gs 0, [.grow false 3 1 (.ints .i64 (D n.toNat))]) else none) none := by kernel_rfl
theorem of51_fn {n : Int} (h : 0 ≤ n ∧ n < 9223372036854775808) : FnOK Tryz.prog 60 [.int .i64 n] [] (.gs 0) ([] ++ [.grow false 3 1 (.ints .i64 (D n.toNat))]) := by
  have he := of51_eval n
  rw [codesS, decide_eq_true (show 0 ≤ n ∧ n < 9223372036854775808 ∧ 0 = 0 by omega), cond_true, cond_true] at he
  obtain ⟨v1, h1, hk, hok⟩ := evalFn_ok (orcP_ok tabA_ok plainL_ok) mixed Tryz.func60 ofL_ok he
  cases hk
  exact hok
/-! ### value -/
theorem D_get {m i : Nat} : (D m)[i]? = if i < (D m).length then some ((m / 10 ^ i % 10 : Nat) : Int) else none := by
  induction i generalizing m with
  | zero =>
    rcases Nat.eq_zero_or_pos m with rfl | hp
    · rfl
    · rw [D_pos hp]; simp
  | succ i ih =>
    rcases Nat.eq_zero_or_pos m with rfl | hp
    · rfl
    · rw [D_pos hp, List.getElem?_cons_succ, ih, List.length_cons, Nat.pow_succ, Nat.mul_comm (10 ^ i) 10, ← Nat.div_div_eq_div_mul]
      by_cases h : i < (D (m / 10)).length
      · rw [if_pos h, if_pos (by omega)]
      · rw [if_neg h, if_neg (by omega)]
theorem vl_loop (n1 : Bool) (rd : Option Nat) (m : Nat) (hm : m < 9223372036854775808) : ∀ k : Nat, k ≤ (D m).length →
    SimC Tryz.prog 1 rd (.loop vlLp) ((vlT n1).at [.i ((m / 10 ^ k : Nat) : Int), .i ((k : Int) - 1), .l (D m)]) (.exit 0) ((vlX n1).at [.i (m : Int), .l (D m)]) := by
  refine loop_of_rounds (C := orcP tabA plainL) (L := noLoops) (N := 200) (me := 87) (T := vlT n1) (T' := vlX n1) (orcP_ok tabA_ok plainL_ok) mixed noLoops_ok (by cases n1 <;> kernel_rfl) (by cases n1 <;> kernel_rfl) (X := Nat)
    (fun k => [.i ((m / 10 ^ k : Nat) : Int), .i ((k : Int) - 1), .l (D m)]) (fun k => k ≤ (D m).length) (fun k => k) (fun _ => (.exit 0, [.i (m : Int), .l (D m)])) ?_
  intro k hk
  have h := vl_round n1 rd ((m / 10 ^ k : Nat) : Int) ((k : Int) - 1) (D m)
  cases k with
  | zero =>
    rw [decide_eq_false (by omega), cond_false] at h
    rw [Nat.pow_zero, Nat.div_one] at h ⊢
    exact ⟨_, _, _, h, codes0, .inr ⟨by simp, rfl⟩⟩
  | succ k =>
    have hs := D_small hm
    have hget := D_get (m := m) (i := k)
    rw [if_pos (by omega)] at hget
    have hdm : 10 * (m / 10 ^ (k + 1)) + m / 10 ^ k % 10 = m / 10 ^ k := by rw [Nat.pow_succ, ← Nat.div_div_eq_div_mul]; omega
    have hle : m / 10 ^ k ≤ m := Nat.div_le_self _ _
    rw [show (((k + 1 : Nat) : Int) - 1) = (k : Int) by omega, decide_eq_true (by omega), cond_true, atI_eq hget, wr64 (x := 10 * ((m / 10 ^ (k + 1) : Nat) : Int)) (by omega) (by omega), show 10 * ((m / 10 ^ (k + 1) : Nat) : Int) + ((m / 10 ^ k % 10 : Nat) : Int) = ((m / 10 ^ k : Nat) : Int) by omega, wr64 (x := ((m / 10 ^ k : Nat) : Int)) (by omega) (by omega), wr64 (x := (k : Int) - 1) (by omega) (by omega)] at h
    rw [show (((k + 1 : Nat) : Int) - 1) = (k : Int) by omega]
    exact ⟨_, _, _, h, codes0, .inl ⟨rfl, k, rfl, by omega, by omega, rfl⟩⟩
def vlTree (n1 : Bool) : List PV → Fin
  | [.i c, .i i, .l xs] => .br (decide (c = 0 ∧ i = nI xs - 1) && (isD xs && decide (val xs < 9223372036854775808))) (.leaf (.exit 0) ((vlX n1).at [.i (val xs), .l xs])) .no
  | _ => .no
noncomputable def vlL (n1 : Bool) : Loops := sums (fun n => match n with | 3 => some (lsumF 1 (vlT n1) vlLp (vlTree n1)) | _ => none)
theorem vlL_ok (n1 : Bool) : loopsOk Tryz.prog (vlL n1) := by
  intro n g hg
  simp only [vlL, sums] at hg
  split at hg
  · cases hg
    refine lsumF_ok (by cases n1 <;> kernel_rfl) (fun rd ps e1 st1 hq => ?_)
    unfold vlTree at hq
    split at hq
    · rename_i c i xs
      simp only [Fin.pick] at hq
      cases hc : (decide (c = 0 ∧ i = nI xs - 1) && (isD xs && decide (val xs < 9223372036854775808))) with
      | false => rw [hc] at hq; cases hq
      | true =>
        rw [hc, cond_true] at hq
        cases hq
        simp only [Bool.and_eq_true, decide_eq_true_eq] at hc
        obtain ⟨⟨rfl, rfl⟩, hd, hv⟩ := hc
        obtain ⟨m, rfl⟩ := isD_eq hd
        rw [val_D] at hv ⊢
        have := vl_loop n1 rd m (by omega) (D m).length (Nat.le_refl _)
        have hz : m / 10 ^ (D m).length = 0 := Nat.div_eq_of_lt (by
          have h1 := val_lt (dig_D m)
          rw [val_D] at h1
          have h2 : ((10 ^ (D m).length : Nat) : Int) = (10 : Int) ^ (D m).length := by rw [Int.natCast_pow]; rfl
          omega)
        rw [hz] at this
        exact this
    · cases hq
  · cases hg
theorem value_eval (n1 : Bool) (xs : List Int) : evalFn Tryz.prog (orcP tabA plainL) (vlL n1) 200 87 Tryz.f87 [.gs 0] [.rs n1 1 (.ints .i64 xs)] keepB =
    cond (codesB [(vlLp, vlLp)]) (bif decide ((0 : Int) = 0 ∧ wr .i64 (nI xs - 1) = nI xs - 1) && (isD xs && decide (val xs < 9223372036854775808)) then some (.int .i64 (val xs), [.rs n1 1 (.ints .i64 xs)]) else none) none := by cases n1 <;> kernel_rfl
theorem value_fn (n1 : Bool) {xs : List Int} (h : (isD xs && decide (val xs < 9223372036854775808)) = true) : FnOK Tryz.prog 87 [.gs 0] [.rs n1 1 (.ints .i64 xs)] (.int .i64 (val xs)) ([.rs n1 1 (.ints .i64 xs)] ++ []) := by
  have he := value_eval n1 xs
  have h2 := h
  simp only [Bool.and_eq_true, decide_eq_true_eq] at h2
  obtain ⟨m, rfl⟩ := isD_eq h2.1
  have hv := h2.2
  rw [val_D] at hv
  have hs := D_small (n := m) (by omega)
  rw [codesS, h, wr64 (by rw [nI_eq]; omega) (by rw [nI_eq]; omega), decide_eq_true ⟨rfl, rfl⟩, cond_true, Bool.and_self, cond_true] at he
  obtain ⟨v1, h1, hk, hok⟩ := evalFn_ok (orcP_ok tabA_ok plainL_ok) mixed Tryz.func87 (vlL_ok n1) he
  cases hk
  exact hok
end Go.Proofs.YtnbfnoomhlamnaaGreat.N2
