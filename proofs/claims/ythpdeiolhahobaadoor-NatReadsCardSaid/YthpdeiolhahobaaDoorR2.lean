/- Texts merged: R2, R3, R4, R5, R6, R7. -/
import Derived.Test.YthpdeiolhahobaaDoorTr
import Derived.Test.YthpdeiolhahobaaDoorNat3
/- Chapter 2, the reference: of, value, add, less: one round each. -/
namespace Go.Proofs.YthpdeiolhahobaaDoor
open Go Go.Eng
def nI (l : List Int) : Int := Int.ofNat l.length
def fitL (l : List Int) : Bool := decide (l.length * 9 ≤ 70368744177664)
def atI (l : List Int) (i : Int) (K : Int → RT) : RT := bif decide (0 ≤ i ∧ i < nI l) then oK l[i.toNat]? K else none
theorem of_round (rd : Option Nat) (c : Int) (zs : List Int) : roundT Tryd.prog (orcP tabA plainL) noLoops 200 0 rd 51 ofLp ofT ofX [.i c, .l zs] =
    bif decide (0 < c) then bif fitL (zs ++ [c.tmod 10]) then some (.normal, [.i (wr .i64 (c.tdiv 10)), .l (zs ++ [c.tmod 10])], []) else none else some (.exit 0, [.l zs], []) := by kernel_rfl
theorem vl_round (n1 : Bool) (rd : Option Nat) (c i : Int) (xs : List Int) : roundT Tryd.prog (orcP tabA plainL) noLoops 200 1 rd 70 vlLp (vlT n1) (vlX n1) [.i c, .i i, .l xs] =
    bif decide (0 ≤ i) then atI xs i (fun v => some (.normal, [.i (wr .i64 (wr .i64 (10 * c) + v)), .i (wr .i64 (i - 1)), .l xs], [])) else some (.exit 0, [.i c, .l xs], []) := by cases n1 <;> kernel_rfl
theorem ls_round (n1 n2 : Bool) (rd : Option Nat) (r : Bool) (i : Int) (xs ys : List Int) : roundT Tryd.prog (orcP tabA plainL) noLoops 200 2 rd 68 lsLp (lsT n1 n2) (lsX n1 n2) [.b r, .i i, .l xs, .l ys] =
    bif decide (0 ≤ i) then atI xs i (fun v => atI ys i (fun u => bif !decide (v = u) then atI xs i (fun v2 => atI ys i (fun u2 => some (.ret, [.b (decide (v2 < u2)), .l xs, .l ys], []))) else
      some (.normal, [.b r, .i (wr .i64 (i - 1)), .l xs, .l ys], []))) else some (.exit 0, [.b r, .l xs, .l ys], []) := by cases n1 <;> cases n2 <;> kernel_rfl
def adK (i : Int) (xs ys zs : List Int) (c : Int) : RT := bif fitL (zs ++ [c.tmod 10]) then some (.normal, [.i (wr .i64 (c.tdiv 10)), .i (wr .i64 (i + 1)), .l xs, .l ys, .l (zs ++ [c.tmod 10])], []) else none
def adB (i : Int) (xs ys zs : List Int) (c : Int) : RT := bif decide (i < nI ys) then atI ys i (fun v => adK i xs ys zs (wr .i64 (c + v))) else adK i xs ys zs c
def adA (i : Int) (xs ys zs : List Int) (c : Int) : RT := bif decide (i < nI xs) then atI xs i (fun v => adB i xs ys zs (wr .i64 (c + v))) else adB i xs ys zs c
theorem ad_round (n1 n2 : Bool) (rd : Option Nat) (c i : Int) (xs ys zs : List Int) : roundT Tryd.prog (orcP tabA plainL) noLoops 200 2 rd 67 adLp (adT n1 n2) (adX n1 n2) [.i c, .i i, .l xs, .l ys, .l zs] =
    bif decide (i < nI xs) then adA i xs ys zs c else bif decide (i < nI ys) then adA i xs ys zs c else bif decide (0 < c) then adA i xs ys zs c else some (.exit 0, [.l xs, .l ys, .l zs], []) := by cases n1 <;> cases n2 <;> kernel_rfl
def sbK (i : Int) (xs ys zs : List Int) (x : Int) : RT := bif decide (x < 0) then bif fitL (zs ++ [wr .i64 (x + 10)]) then some (.normal, [.i 1, .i (wr .i64 (i + 1)), .l xs, .l ys, .l (zs ++ [wr .i64 (x + 10)])], []) else none else
  bif fitL (zs ++ [x]) then some (.normal, [.i 0, .i (wr .i64 (i + 1)), .l xs, .l ys, .l (zs ++ [x])], []) else none
theorem sb_round (n1 n2 : Bool) (rd : Option Nat) (c i : Int) (xs ys zs : List Int) : roundT Tryd.prog (orcP tabA plainL) noLoops 200 2 rd 69 sbLp (sbT n1 n2) (sbX n1 n2) [.i c, .i i, .l xs, .l ys, .l zs] =
    bif decide (i < nI xs) then atI xs i (fun v => bif decide (i < nI ys) then atI ys i (fun u => sbK i xs ys zs (wr .i64 (wr .i64 (v - c) - u))) else sbK i xs ys zs (wr .i64 (v - c))) else some (.exit 0, [.l xs, .l ys, .l zs], []) := by cases n1 <;> cases n2 <;> kernel_rfl
def mlK (c i : Int) (xs ys zs : List Int) (v x y : Int) : RT := bif decide (0 ≤ wr .i64 (c + i) ∧ wr .i64 (c + i) < nI zs) then bif decide ((wr .i64 (c + i)).toNat < zs.length) then
  some (.normal, [.i c, .i (wr .i64 (i + 1)), .l xs, .l ys, .l (zs.set (wr .i64 (c + i)).toNat (wr .i64 (v + wr .i64 (x * y))))], []) else none else none
theorem ml_round2 (n1 n2 : Bool) (rd : Option Nat) (c i : Int) (xs ys zs : List Int) : roundT Tryd.prog (orcP tabA plainL) noLoops 200 2 rd 49 mlLp2 (mlT2 n1 n2) (mlT1 n1 n2) [.i c, .i i, .l xs, .l ys, .l zs] =
    bif decide (i < nI ys) then atI zs (wr .i64 (c + i)) (fun v => atI xs c (fun x => atI ys i (fun y => mlK c i xs ys zs v x y))) else some (.exit 2, [.i c, .l xs, .l ys, .l zs], []) := by cases n1 <;> cases n2 <;> kernel_rfl
theorem ml_round3 (n1 n2 : Bool) (rd : Option Nat) (c i : Int) (xs ys zs : List Int) : roundT Tryd.prog (orcP tabA plainL) noLoops 200 2 rd 49 mlLp3 (mlT3 n1 n2) (mlX1 n1 n2) [.i c, .i i, .l xs, .l ys, .l zs] =
    bif decide (i < nI zs) then atI zs i (fun v => bif decide (0 ≤ i ∧ i < nI zs) then bif decide (i.toNat < zs.length) then
      some (.normal, [.i (wr .i64 ((wr .i64 (c + v)).tdiv 10)), .i (wr .i64 (i + 1)), .l xs, .l ys, .l (zs.set i.toNat ((wr .i64 (c + v)).tmod 10))], []) else none else none) else some (.exit 4, [.l xs, .l ys, .l zs], []) := by cases n1 <;> cases n2 <;> kernel_rfl
end Go.Proofs.YthpdeiolhahobaaDoor

/- Chapter 2, the reference: of, value, less, add, for every list of digits. -/
namespace Go.Proofs.YthpdeiolhahobaaDoor
open Go Go.Eng
/-- No list of the reference is longer. -/
abbrev LB : Nat := 1000000
theorem fitL_true {l : List Int} (h : l.length ≤ 2000000) : fitL l = true := by unfold fitL; rw [decide_eq_true (by omega)]
theorem tmod10 (n : Nat) : ((n : Int)).tmod 10 = ((n % 10 : Nat) : Int) := by rw [Int.tmod_eq_emod_of_nonneg (by omega)]; rfl
theorem tdiv10 (n : Nat) : ((n : Int)).tdiv 10 = ((n / 10 : Nat) : Int) := by rw [Int.tdiv_eq_ediv_of_nonneg (by omega)]; rfl
theorem nI_eq (l : List Int) : nI l = (l.length : Int) := rfl
theorem atI_eq {l : List Int} {i : Nat} {v : Int} (h : l[i]? = some v) (K : Int → RT) : atI l (i : Int) K = K v := by
  obtain ⟨hlt, _⟩ := List.getElem?_eq_some_iff.1 h
  unfold atI
  rw [nI_eq, decide_eq_true (by omega), cond_true, show ((i : Int)).toNat = i from rfl, h, oK_some]
/-! ### of -/
theorem of_loop (rd : Option Nat) : ∀ x : Nat × List Int, (x.1 < 9223372036854775808 ∧ x.2.length + (D x.1).length ≤ 1000000) →
    SimC Tryd.prog 0 rd (.loop ofLp) (ofT.at [.i (x.1 : Int), .l x.2]) (.exit 0) (ofX.at [.l (x.2 ++ D x.1)]) := by
  refine loop_of_rounds (C := orcP tabA plainL) (L := noLoops) (N := 200) (me := 51) (T := ofT) (T' := ofX) (orcP_ok tabA_ok plainL_ok) mixed noLoops_ok (by kernel_rfl) (by kernel_rfl) (X := Nat × List Int)
    (fun x => [.i (x.1 : Int), .l x.2]) (fun x => x.1 < 9223372036854775808 ∧ x.2.length + (D x.1).length ≤ 1000000) (fun x => x.1) (fun x => (.exit 0, [.l (x.2 ++ D x.1)])) ?_
  rintro ⟨c, zs⟩ ⟨hc, hl⟩
  dsimp only at hc hl ⊢
  have h := of_round rd c zs
  rcases Nat.eq_zero_or_pos c with rfl | hp
  · rw [decide_eq_false (by omega), cond_false] at h
    rw [D_zero, List.append_nil]
    exact ⟨_, _, _, h, codes0, .inr ⟨by simp, rfl⟩⟩
  · have hD := D_pos hp
    rw [hD, List.length_cons] at hl
    rw [tmod10, tdiv10, decide_eq_true (by omega), fitL_true (by rw [List.length_append, List.length_singleton]; omega), cond_true, cond_true, wr64 (by omega) (by omega)] at h
    refine ⟨_, _, _, h, codes0, .inl ⟨rfl, (c / 10, zs ++ [((c % 10 : Nat) : Int)]), rfl, ⟨by dsimp only; omega, by dsimp only; rw [List.length_append, List.length_singleton]; omega⟩, by dsimp only; omega, ?_⟩⟩
    dsimp only
    rw [hD, List.append_assoc]; rfl
def ofTree : List PV → Fin
  | [.i c, .l zs] => .br (decide (0 ≤ c ∧ c < 9223372036854775808 ∧ zs.length = 0)) (.leaf (.exit 0) (ofX.at [.l (D c.toNat)])) .no
  | _ => .no
noncomputable def ofL : Loops := sums (fun n => match n with | 2 => some (lsumF 0 ofT ofLp ofTree) | _ => none)
theorem D_small {n : Nat} (h : n < 9223372036854775808) : (D n).length ≤ 19 := D_len_lt (Nat.lt_trans h (by decide))
theorem ofL_ok : loopsOk Tryd.prog ofL := by
  intro n g hg
  simp only [ofL, sums] at hg
  split at hg
  · cases hg
    refine lsumF_ok (by kernel_rfl) (fun rd ps e1 st1 hq => ?_)
    unfold ofTree at hq
    split at hq
    · rename_i c zs
      simp only [Fin.pick] at hq
      cases hc : decide (0 ≤ c ∧ c < 9223372036854775808 ∧ zs.length = 0) with
      | false => rw [hc] at hq; cases hq
      | true =>
        rw [hc, cond_true] at hq
        cases hq
        obtain ⟨h1, h2, h3⟩ := of_decide_eq_true hc
        have hz := List.eq_nil_of_length_eq_zero h3
        subst hz
        have := of_loop rd (c.toNat, []) ⟨by dsimp only; omega, by have := D_small (n := c.toNat) (by omega); dsimp only [List.length_nil]; omega⟩
        dsimp only at this
        rw [show ((c.toNat : Nat) : Int) = c by omega] at this
        exact this
    · cases hq
  · cases hg
theorem of51_eval (n : Int) : evalFn Tryd.prog (orcP tabA plainL) ofL 200 51 Tryd.f51 [.int .i64 n] [] keepB =
    cond (codesB [(ofLp, ofLp)]) (bif decide (0 ≤ n ∧ n < 9223372036854775808 ∧ 0 = 0) then some (.gs 0, [.grow false 3 1 (.ints .i64 (D n.toNat))]) else none) none := by kernel_rfl
theorem of51_fn {n : Int} (h : 0 ≤ n ∧ n < 9223372036854775808) : FnOK Tryd.prog 51 [.int .i64 n] [] (.gs 0) ([] ++ [.grow false 3 1 (.ints .i64 (D n.toNat))]) := by
  have he := of51_eval n
  rw [codesS, decide_eq_true (show 0 ≤ n ∧ n < 9223372036854775808 ∧ 0 = 0 by omega), cond_true, cond_true] at he
  obtain ⟨v1, h1, hk, hok⟩ := evalFn_ok (orcP_ok tabA_ok plainL_ok) mixed Tryd.func51 ofL_ok he
  cases hk
  exact hok
/-! ### value -/
theorem D_get {m i : Nat} : (D m)[i]? = if i < (D m).length then some ((m / 10 ^ i % 10 : Nat) : Int) else none := by
  induction i generalizing m with
  | zero =>
    rcases Nat.eq_zero_or_pos m with rfl | hp
    · rfl
    · rw [D_pos hp]; simp
  | succ i ih =>
    rcases Nat.eq_zero_or_pos m with rfl | hp
    · rfl
    · rw [D_pos hp, List.getElem?_cons_succ, ih, List.length_cons, Nat.pow_succ, Nat.mul_comm (10 ^ i) 10, ← Nat.div_div_eq_div_mul]
      by_cases h : i < (D (m / 10)).length
      · rw [if_pos h, if_pos (by omega)]
      · rw [if_neg h, if_neg (by omega)]
theorem vl_loop (n1 : Bool) (rd : Option Nat) (m : Nat) (hm : m < 9223372036854775808) : ∀ k : Nat, k ≤ (D m).length →
    SimC Tryd.prog 1 rd (.loop vlLp) ((vlT n1).at [.i ((m / 10 ^ k : Nat) : Int), .i ((k : Int) - 1), .l (D m)]) (.exit 0) ((vlX n1).at [.i (m : Int), .l (D m)]) := by
  refine loop_of_rounds (C := orcP tabA plainL) (L := noLoops) (N := 200) (me := 70) (T := vlT n1) (T' := vlX n1) (orcP_ok tabA_ok plainL_ok) mixed noLoops_ok (by cases n1 <;> kernel_rfl) (by cases n1 <;> kernel_rfl) (X := Nat)
    (fun k => [.i ((m / 10 ^ k : Nat) : Int), .i ((k : Int) - 1), .l (D m)]) (fun k => k ≤ (D m).length) (fun k => k) (fun _ => (.exit 0, [.i (m : Int), .l (D m)])) ?_
  intro k hk
  have h := vl_round n1 rd ((m / 10 ^ k : Nat) : Int) ((k : Int) - 1) (D m)
  cases k with
  | zero =>
    rw [decide_eq_false (by omega), cond_false] at h
    rw [Nat.pow_zero, Nat.div_one] at h ⊢
    exact ⟨_, _, _, h, codes0, .inr ⟨by simp, rfl⟩⟩
  | succ k =>
    have hs := D_small hm
    have hget := D_get (m := m) (i := k)
    rw [if_pos (by omega)] at hget
    have hdm : 10 * (m / 10 ^ (k + 1)) + m / 10 ^ k % 10 = m / 10 ^ k := by rw [Nat.pow_succ, ← Nat.div_div_eq_div_mul]; omega
    have hle : m / 10 ^ k ≤ m := Nat.div_le_self _ _
    rw [show (((k + 1 : Nat) : Int) - 1) = (k : Int) by omega, decide_eq_true (by omega), cond_true, atI_eq hget, wr64 (x := 10 * ((m / 10 ^ (k + 1) : Nat) : Int)) (by omega) (by omega), show 10 * ((m / 10 ^ (k + 1) : Nat) : Int) + ((m / 10 ^ k % 10 : Nat) : Int) = ((m / 10 ^ k : Nat) : Int) by omega, wr64 (x := ((m / 10 ^ k : Nat) : Int)) (by omega) (by omega), wr64 (x := (k : Int) - 1) (by omega) (by omega)] at h
    rw [show (((k + 1 : Nat) : Int) - 1) = (k : Int) by omega]
    exact ⟨_, _, _, h, codes0, .inl ⟨rfl, k, rfl, by omega, by omega, rfl⟩⟩
def vlTree (n1 : Bool) : List PV → Fin
  | [.i c, .i i, .l xs] => .br (decide (c = 0 ∧ i = nI xs - 1) && (isD xs && decide (val xs < 9223372036854775808))) (.leaf (.exit 0) ((vlX n1).at [.i (val xs), .l xs])) .no
  | _ => .no
noncomputable def vlL (n1 : Bool) : Loops := sums (fun n => match n with | 3 => some (lsumF 1 (vlT n1) vlLp (vlTree n1)) | _ => none)
theorem vlL_ok (n1 : Bool) : loopsOk Tryd.prog (vlL n1) := by
  intro n g hg
  simp only [vlL, sums] at hg
  split at hg
  · cases hg
    refine lsumF_ok (by cases n1 <;> kernel_rfl) (fun rd ps e1 st1 hq => ?_)
    unfold vlTree at hq
    split at hq
    · rename_i c i xs
      simp only [Fin.pick] at hq
      cases hc : (decide (c = 0 ∧ i = nI xs - 1) && (isD xs && decide (val xs < 9223372036854775808))) with
      | false => rw [hc] at hq; cases hq
      | true =>
        rw [hc, cond_true] at hq
        cases hq
        simp only [Bool.and_eq_true, decide_eq_true_eq] at hc
        obtain ⟨⟨rfl, rfl⟩, hd, hv⟩ := hc
        obtain ⟨m, rfl⟩ := isD_eq hd
        rw [val_D] at hv ⊢
        have := vl_loop n1 rd m (by omega) (D m).length (Nat.le_refl _)
        have hz : m / 10 ^ (D m).length = 0 := Nat.div_eq_of_lt (by
          have h1 := val_lt (dig_D m)
          rw [val_D] at h1
          have h2 : ((10 ^ (D m).length : Nat) : Int) = (10 : Int) ^ (D m).length := by rw [Int.natCast_pow]; rfl
          omega)
        rw [hz] at this
        exact this
    · cases hq
  · cases hg
theorem value_eval (n1 : Bool) (xs : List Int) : evalFn Tryd.prog (orcP tabA plainL) (vlL n1) 200 70 Tryd.f70 [.gs 0] [.rs n1 1 (.ints .i64 xs)] keepB =
    cond (codesB [(vlLp, vlLp)]) (bif decide ((0 : Int) = 0 ∧ wr .i64 (nI xs - 1) = nI xs - 1) && (isD xs && decide (val xs < 9223372036854775808)) then some (.int .i64 (val xs), [.rs n1 1 (.ints .i64 xs)]) else none) none := by cases n1 <;> kernel_rfl
theorem value_fn (n1 : Bool) {xs : List Int} (h : (isD xs && decide (val xs < 9223372036854775808)) = true) : FnOK Tryd.prog 70 [.gs 0] [.rs n1 1 (.ints .i64 xs)] (.int .i64 (val xs)) ([.rs n1 1 (.ints .i64 xs)] ++ []) := by
  have he := value_eval n1 xs
  have h2 := h
  simp only [Bool.and_eq_true, decide_eq_true_eq] at h2
  obtain ⟨m, rfl⟩ := isD_eq h2.1
  have hv := h2.2
  rw [val_D] at hv
  have hs := D_small (n := m) (by omega)
  rw [codesS, h, wr64 (by rw [nI_eq]; omega) (by rw [nI_eq]; omega), decide_eq_true ⟨rfl, rfl⟩, cond_true, Bool.and_self, cond_true] at he
  obtain ⟨v1, h1, hk, hok⟩ := evalFn_ok (orcP_ok tabA_ok plainL_ok) mixed Tryd.func70 (vlL_ok n1) he
  cases hk
  exact hok
end Go.Proofs.YthpdeiolhahobaaDoor

/- Chapter 2, the reference: less and add, for every list of digits. -/
namespace Go.Proofs.YthpdeiolhahobaaDoor
open Go Go.Eng
theorem D_lt_pow (m : Nat) : m < 10 ^ (D m).length := by
  have h1 := val_lt (dig_D m)
  rw [val_D] at h1
  have h2 : ((10 ^ (D m).length : Nat) : Int) = (10 : Int) ^ (D m).length := by rw [Int.natCast_pow]; rfl
  omega
theorem len_lt {m n : Nat} (h : (D m).length < (D n).length) : m < n := by
  apply Classical.byContradiction
  intro hn
  have h1 := D_len_lt (k := (D m).length) (n := n) (by have := D_lt_pow m; omega)
  omega
theorem ls_loop (n1 n2 : Bool) (rd : Option Nat) (m n : Nat) (hl : (D m).length = (D n).length) (hb : (D m).length ≤ 1000000) : ∀ k : Nat, (k ≤ (D m).length ∧ m / 10 ^ k = n / 10 ^ k) →
    SimC Tryd.prog 2 rd (.loop lsLp) ((lsT n1 n2).at [.b false, .i ((k : Int) - 1), .l (D m), .l (D n)]) (bif decide (m = n) then .exit 0 else .ret) ((lsX n1 n2).at [.b (decide (m < n)), .l (D m), .l (D n)]) := by
  refine loop_of_rounds (C := orcP tabA plainL) (L := noLoops) (N := 200) (me := 68) (T := lsT n1 n2) (T' := lsX n1 n2) (orcP_ok tabA_ok plainL_ok) mixed noLoops_ok (by cases n1 <;> cases n2 <;> kernel_rfl) (by cases n1 <;> cases n2 <;> kernel_rfl) (X := Nat)
    (fun k => [.b false, .i ((k : Int) - 1), .l (D m), .l (D n)]) (fun k => k ≤ (D m).length ∧ m / 10 ^ k = n / 10 ^ k) (fun k => k) (fun _ => ((bif decide (m = n) then .exit 0 else .ret), [.b (decide (m < n)), .l (D m), .l (D n)])) ?_
  rintro k ⟨hk, he⟩
  have h := ls_round n1 n2 rd false ((k : Int) - 1) (D m) (D n)
  cases k with
  | zero =>
    rw [Nat.pow_zero, Nat.div_one, Nat.div_one] at he
    subst he
    rw [decide_eq_false (by omega), cond_false] at h
    rw [decide_eq_true rfl, decide_eq_false (Nat.lt_irrefl _)]
    exact ⟨_, _, _, h, codes0, .inr ⟨by simp, rfl⟩⟩
  | succ k =>
    have g1 := D_get (m := m) (i := k)
    have g2 := D_get (m := n) (i := k)
    rw [if_pos (by omega)] at g1 g2
    have e1 : 10 * (m / 10 ^ (k + 1)) + m / 10 ^ k % 10 = m / 10 ^ k := by rw [Nat.pow_succ, ← Nat.div_div_eq_div_mul]; omega
    have e2 : 10 * (n / 10 ^ (k + 1)) + n / 10 ^ k % 10 = n / 10 ^ k := by rw [Nat.pow_succ, ← Nat.div_div_eq_div_mul]; omega
    have hi : (((k + 1 : Nat) : Int) - 1) = (k : Int) := by omega
    rw [hi, decide_eq_true (by omega), cond_true, atI_eq g1, atI_eq g2] at h
    rw [hi]
    by_cases hv : m / 10 ^ k % 10 = n / 10 ^ k % 10
    · rw [decide_eq_true (show ((m / 10 ^ k % 10 : Nat) : Int) = ((n / 10 ^ k % 10 : Nat) : Int) by omega), Bool.not_true, cond_false, wr64 (by omega) (by omega)] at h
      exact ⟨_, _, _, h, codes0, .inl ⟨rfl, k, rfl, ⟨by omega, by omega⟩, by omega, rfl⟩⟩
    · rw [decide_eq_false (show ¬ ((m / 10 ^ k % 10 : Nat) : Int) = ((n / 10 ^ k % 10 : Nat) : Int) by omega), Bool.not_false, cond_true, atI_eq g1, atI_eq g2] at h
      have hne : m ≠ n := fun e => hv (by rw [e])
      have hlt : decide (((m / 10 ^ k % 10 : Nat) : Int) < ((n / 10 ^ k % 10 : Nat) : Int)) = decide (m < n) := by
        rw [Bool.eq_iff_iff, decide_eq_true_eq, decide_eq_true_eq]
        constructor
        · intro hd
          apply Classical.byContradiction
          intro hn
          have := Nat.div_le_div_right (c := 10 ^ k) (Nat.le_of_not_lt hn)
          omega
        · intro hd
          have := Nat.div_le_div_right (c := 10 ^ k) (Nat.le_of_lt hd)
          omega
      rw [hlt] at h
      rw [decide_eq_false hne]
      exact ⟨_, _, _, h, codes0, .inr ⟨by simp, rfl⟩⟩
def okD (xs : List Int) : Bool := isD xs && decide (xs.length ≤ 1000000)
theorem okD_eq {xs : List Int} (h : okD xs = true) : ∃ m : Nat, xs = D m ∧ (D m).length ≤ 1000000 := by
  unfold okD at h
  simp only [Bool.and_eq_true, decide_eq_true_eq] at h
  obtain ⟨m, rfl⟩ := isD_eq h.1
  exact ⟨m, rfl, h.2⟩
theorem okD_D {m : Nat} (h : (D m).length ≤ 1000000) : okD (D m) = true := by unfold okD; rw [isD_D, decide_eq_true h]; rfl
def lsTree (n1 n2 : Bool) : List PV → Fin
  | [.b r, .i i, .l xs, .l ys] => .br (decide (r = false ∧ i = nI xs - 1 ∧ nI xs = nI ys) && (okD xs && okD ys)) (.br (decide (val xs = val ys)) (.leaf (.exit 0) ((lsX n1 n2).at [.b (decide (val xs < val ys)), .l xs, .l ys])) (.leaf .ret ((lsX n1 n2).at [.b (decide (val xs < val ys)), .l xs, .l ys]))) .no
  | _ => .no
noncomputable def lsL (n1 n2 : Bool) : Loops := sums (fun n => match n with | 4 => some (lsumF 2 (lsT n1 n2) lsLp (lsTree n1 n2)) | _ => none)
theorem lsL_ok (n1 n2 : Bool) : loopsOk Tryd.prog (lsL n1 n2) := by
  intro n g hg
  simp only [lsL, sums] at hg
  split at hg
  · cases hg
    refine lsumF_ok (by cases n1 <;> cases n2 <;> kernel_rfl) (fun rd ps e1 st1 hq => ?_)
    unfold lsTree at hq
    split at hq
    · rename_i r i xs ys
      simp only [Fin.pick] at hq
      cases hc : (decide (r = false ∧ i = nI xs - 1 ∧ nI xs = nI ys) && (okD xs && okD ys)) with
      | false => rw [hc] at hq; cases hq
      | true =>
        rw [hc, cond_true] at hq
        simp only [Bool.and_eq_true, decide_eq_true_eq] at hc
        obtain ⟨⟨rfl, rfl, hl⟩, hx, hy⟩ := hc
        obtain ⟨m, rfl, hm⟩ := okD_eq hx
        obtain ⟨n, rfl, hn⟩ := okD_eq hy
        rw [nI_eq, nI_eq] at hl
        have h0 : ∀ z : Nat, (D z).length = (D m).length → z / 10 ^ (D m).length = 0 := fun z hz => Nat.div_eq_of_lt (by rw [← hz]; exact D_lt_pow z)
        have := ls_loop n1 n2 rd m n (by omega) hm (D m).length ⟨Nat.le_refl _, by rw [h0 m rfl, h0 n (by omega)]⟩
        rw [val_D, val_D] at hq
        have d1 : decide ((m : Int) = (n : Int)) = decide (m = n) := by rw [Bool.eq_iff_iff, decide_eq_true_eq, decide_eq_true_eq]; omega
        have d2 : decide ((m : Int) < (n : Int)) = decide (m < n) := by rw [Bool.eq_iff_iff, decide_eq_true_eq, decide_eq_true_eq]; omega
        rw [d1, d2] at hq
        cases he : decide (m = n) with
        | true => rw [he, cond_true] at hq; cases hq; rw [he] at this; exact this
        | false => rw [he, cond_false] at hq; cases hq; rw [he] at this; exact this
    · cases hq
  · cases hg
theorem less_eval (n1 n2 : Bool) (xs ys : List Int) : evalFn Tryd.prog (orcP tabA plainL) (lsL n1 n2) 200 68 Tryd.f68 [.gs 0, .gs 1] [.rs n1 1 (.ints .i64 xs), .rs n2 1 (.ints .i64 ys)] keepB =
    bif !decide (nI xs = nI ys) then some (.bool (decide (nI xs < nI ys)), [.rs n1 1 (.ints .i64 xs), .rs n2 1 (.ints .i64 ys)]) else
    cond (codesB [(lsLp, lsLp)]) (bif decide (false = false ∧ wr .i64 (nI xs - 1) = nI xs - 1 ∧ nI xs = nI ys) && (okD xs && okD ys) then bif decide (val xs = val ys) then some (.bool false, [.rs n1 1 (.ints .i64 xs), .rs n2 1 (.ints .i64 ys)]) else some (.bool (decide (val xs < val ys)), [.rs n1 1 (.ints .i64 xs), .rs n2 1 (.ints .i64 ys)]) else none) none := by cases n1 <;> cases n2 <;> kernel_rfl
theorem less_fn (n1 n2 : Bool) {xs ys : List Int} (hx : okD xs = true) (hy : okD ys = true) : FnOK Tryd.prog 68 [.gs 0, .gs 1] [.rs n1 1 (.ints .i64 xs), .rs n2 1 (.ints .i64 ys)] (.bool (decide (val xs < val ys))) ([.rs n1 1 (.ints .i64 xs), .rs n2 1 (.ints .i64 ys)] ++ []) := by
  have he := less_eval n1 n2 xs ys
  obtain ⟨m, rfl, hm⟩ := okD_eq hx
  obtain ⟨n, rfl, hn⟩ := okD_eq hy
  have key : evalFn Tryd.prog (orcP tabA plainL) (lsL n1 n2) 200 68 Tryd.f68 [.gs 0, .gs 1] [.rs n1 1 (.ints .i64 (D m)), .rs n2 1 (.ints .i64 (D n))] keepB = some (.bool (decide (val (D m) < val (D n))), [.rs n1 1 (.ints .i64 (D m)), .rs n2 1 (.ints .i64 (D n))]) := by
    rw [he, nI_eq, nI_eq, val_D, val_D]
    by_cases hl : (D m).length = (D n).length
    · rw [decide_eq_true (show ((D m).length : Int) = ((D n).length : Int) by omega), Bool.not_true, cond_false, codesS, hx, hy, wr64 (by omega) (by omega), decide_eq_true ⟨rfl, rfl, by omega⟩]
      simp only [Bool.and_self, cond_true]
      by_cases h1 : (m : Int) = (n : Int)
      · rw [decide_eq_true h1, decide_eq_false (show ¬ (m : Int) < (n : Int) by omega)]; rfl
      · rw [decide_eq_false h1]; rfl
    · rw [decide_eq_false (show ¬ ((D m).length : Int) = ((D n).length : Int) by omega), Bool.not_false, cond_true]
      have : decide (((D m).length : Int) < ((D n).length : Int)) = decide ((m : Int) < (n : Int)) := by
        rw [Bool.eq_iff_iff, decide_eq_true_eq, decide_eq_true_eq]
        constructor
        · intro h
          have := len_lt (m := m) (n := n) (by omega)
          omega
        · intro h
          rcases Nat.lt_or_ge (D n).length (D m).length with h2 | h2
          · have := len_lt h2; omega
          · omega
      rw [this]
  obtain ⟨v1, h1, hk, hok⟩ := evalFn_ok (orcP_ok tabA_ok plainL_ok) mixed Tryd.func68 (lsL_ok n1 n2) key
  cases hk
  exact hok
/-! ### add -/
theorem D_drop (m : Nat) : ∀ i : Nat, (D m).drop i = D (m / 10 ^ i)
  | 0 => by simp
  | i + 1 => by
    rw [← List.drop_drop, D_drop m i, Nat.pow_succ, ← Nat.div_div_eq_div_mul]
    rcases Nat.eq_zero_or_pos (m / 10 ^ i) with h | h
    · rw [h]; rfl
    · rw [D_pos h]; rfl
theorem head_of {xs : List Int} {i m : Nat} (h : xs.drop i = D m) : (xs[i]? = if 0 < m then some ((m % 10 : Nat) : Int) else none) ∧ (i < xs.length ↔ 0 < m) ∧ xs.drop (i + 1) = D (m / 10) := by
  have h0 : xs[i]? = (xs.drop i)[0]? := by rw [List.getElem?_drop]; rfl
  have h1 : (xs.drop i).length = xs.length - i := List.length_drop ..
  rw [h] at h0 h1
  have h2 : xs.drop (i + 1) = (xs.drop i).drop 1 := by rw [List.drop_drop]
  rw [h] at h2
  rcases Nat.eq_zero_or_pos m with rfl | hp
  · exact ⟨by rw [h0]; rfl, by rw [D_zero] at h1; simp at h1; omega, by rw [h2]; rfl⟩
  · rw [D_pos hp] at h0 h1 h2
    exact ⟨by rw [h0, if_pos hp]; rfl, by simp at h1; omega, by rw [h2]; rfl⟩
structure AdX where
  c : Nat
  i : Nat
  m : Nat
  n : Nat
  zs : List Int
theorem ad_loop (n1 n2 : Bool) (rd : Option Nat) (xs ys : List Int) : ∀ x : AdX, (x.c ≤ 1 ∧ xs.drop x.i = D x.m ∧ ys.drop x.i = D x.n ∧ x.zs.length + (D (x.m + x.n + x.c)).length ≤ 2000000 ∧ x.i ≤ 2000000 ∧ x.i = x.zs.length) →
    SimC Tryd.prog 2 rd (.loop adLp) ((adT n1 n2).at [.i (x.c : Int), .i (x.i : Int), .l xs, .l ys, .l x.zs]) (.exit 0) ((adX n1 n2).at [.l xs, .l ys, .l (x.zs ++ D (x.m + x.n + x.c))]) := by
  refine loop_of_rounds (C := orcP tabA plainL) (L := noLoops) (N := 200) (me := 67) (T := adT n1 n2) (T' := adX n1 n2) (orcP_ok tabA_ok plainL_ok) mixed noLoops_ok (by cases n1 <;> cases n2 <;> kernel_rfl) (by cases n1 <;> cases n2 <;> kernel_rfl) (X := AdX)
    (fun x => [.i (x.c : Int), .i (x.i : Int), .l xs, .l ys, .l x.zs]) (fun x => x.c ≤ 1 ∧ xs.drop x.i = D x.m ∧ ys.drop x.i = D x.n ∧ x.zs.length + (D (x.m + x.n + x.c)).length ≤ 2000000 ∧ x.i ≤ 2000000 ∧ x.i = x.zs.length) (fun x => x.m + x.n + x.c)
    (fun x => (.exit 0, [.l xs, .l ys, .l (x.zs ++ D (x.m + x.n + x.c))])) ?_
  rintro ⟨c, i, m, n, zs⟩ ⟨hc, hx, hy, hl, hi, hz⟩
  dsimp only at hc hx hy hl hi hz ⊢
  obtain ⟨gx, lx, dx⟩ := head_of hx
  obtain ⟨gy, ly, dy⟩ := head_of hy
  have h := ad_round n1 n2 rd c i xs ys zs
  rw [nI_eq, nI_eq] at h
  -- what one round does, if there is anything left
  have main : 0 < m + n + c → adA (i : Int) xs ys zs (c : Int) = some (.normal, [.i (((m + n + c) / 10 - m / 10 - n / 10 : Nat) : Int), .i ((i + 1 : Nat) : Int), .l xs, .l ys, .l (zs ++ [(((m + n + c) % 10 : Nat) : Int)])], []) := by
    intro hp
    have hD := D_pos hp
    rw [hD, List.length_cons] at hl
    have fin : ∀ t : Nat, t % 10 = (m + n + c) % 10 → t / 10 = (m + n + c) / 10 - m / 10 - n / 10 → t < 100 → adK (i : Int) xs ys zs (t : Int) = some (.normal, [.i (((m + n + c) / 10 - m / 10 - n / 10 : Nat) : Int), .i ((i + 1 : Nat) : Int), .l xs, .l ys, .l (zs ++ [(((m + n + c) % 10 : Nat) : Int)])], []) := by
      intro t h1 h2 h3
      unfold adK
      rw [tmod10, tdiv10, fitL_true (by rw [List.length_append, List.length_singleton]; omega), cond_true, wr64 (by omega) (by omega), wr64 (by omega) (by omega), h1, h2]
      rfl
    have hB : ∀ t : Nat, t < 50 → (t + n % 10) % 10 = (m + n + c) % 10 → (t + n % 10) / 10 = (m + n + c) / 10 - m / 10 - n / 10 → adB (i : Int) xs ys zs (t : Int) = some (.normal, [.i (((m + n + c) / 10 - m / 10 - n / 10 : Nat) : Int), .i ((i + 1 : Nat) : Int), .l xs, .l ys, .l (zs ++ [(((m + n + c) % 10 : Nat) : Int)])], []) := by
      intro t h0 h1 h2
      unfold adB
      rw [nI_eq]
      by_cases hn : 0 < n
      · rw [if_pos hn] at gy
        rw [decide_eq_true (by omega), cond_true, atI_eq gy, show (t : Int) + ((n % 10 : Nat) : Int) = ((t + n % 10 : Nat) : Int) by omega, wr64 (by omega) (by omega)]
        exact fin _ h1 h2 (by omega)
      · rw [decide_eq_false (by omega), cond_false]
        exact fin _ (by rw [show n = 0 by omega] at h1 ⊢; simpa using h1) (by rw [show n = 0 by omega] at h2 ⊢; simpa using h2) (by omega)
    unfold adA
    rw [nI_eq]
    by_cases hm : 0 < m
    · rw [if_pos hm] at gx
      rw [decide_eq_true (by omega), cond_true, atI_eq gx, show (c : Int) + ((m % 10 : Nat) : Int) = ((c + m % 10 : Nat) : Int) by omega, wr64 (by omega) (by omega)]
      exact hB _ (by omega) (by omega) (by omega)
    · rw [decide_eq_false (by omega), cond_false]
      exact hB _ (by omega) (by omega) (by omega)
  by_cases h0 : 0 < m + n + c
  · rw [main h0] at h
    have hD := D_pos h0
    have hl2 := hl
    rw [hD, List.length_cons] at hl2
    have h' : roundT Tryd.prog (orcP tabA plainL) noLoops 200 2 rd 67 adLp (adT n1 n2) (adX n1 n2) [.i (c : Int), .i (i : Int), .l xs, .l ys, .l zs] = some (.normal, [.i (((m + n + c) / 10 - m / 10 - n / 10 : Nat) : Int), .i ((i + 1 : Nat) : Int), .l xs, .l ys, .l (zs ++ [(((m + n + c) % 10 : Nat) : Int)])], []) := by
      rw [h]
      by_cases hm : 0 < m
      · rw [decide_eq_true (show (i : Int) < (xs.length : Int) by omega)]; rfl
      · rw [decide_eq_false (show ¬ (i : Int) < (xs.length : Int) by omega)]
        by_cases hn : 0 < n
        · rw [decide_eq_true (show (i : Int) < (ys.length : Int) by omega)]; rfl
        · rw [decide_eq_false (show ¬ (i : Int) < (ys.length : Int) by omega), decide_eq_true (show (0 : Int) < (c : Int) by omega)]; rfl
    have hsum : m / 10 + n / 10 + ((m + n + c) / 10 - m / 10 - n / 10) = (m + n + c) / 10 := by omega
    refine ⟨_, _, _, h', codes0, .inl ⟨rfl, ⟨(m + n + c) / 10 - m / 10 - n / 10, i + 1, m / 10, n / 10, zs ++ [(((m + n + c) % 10 : Nat) : Int)]⟩, rfl, ⟨by dsimp only; omega, dx, dy, ?_, by dsimp only; omega, by dsimp only; rw [List.length_append, List.length_singleton]; omega⟩, by dsimp only; omega, ?_⟩⟩
    · dsimp only
      rw [hsum, List.length_append, List.length_singleton]; omega
    · dsimp only
      rw [hsum, hD, List.append_assoc]; rfl
  · have hm : m = 0 := by omega
    have hn : n = 0 := by omega
    have hc0 : c = 0 := by omega
    subst hm; subst hn; subst hc0
    rw [decide_eq_false (by omega), decide_eq_false (by omega), decide_eq_false (by omega), cond_false, cond_false, cond_false] at h
    rw [D_zero, List.append_nil]
    exact ⟨_, _, _, h, codes0, .inr ⟨by simp, rfl⟩⟩
end Go.Proofs.YthpdeiolhahobaaDoor

/- Chapter 2, the reference: add's contract; sub. -/
namespace Go.Proofs.YthpdeiolhahobaaDoor
open Go Go.Eng
def sumD (xs ys : List Int) : List Int := D (val xs + val ys).toNat
def adTree (n1 n2 : Bool) : List PV → Fin
  | [.i c, .i i, .l xs, .l ys, .l zs] => .br (decide (c = 0 ∧ i = 0 ∧ zs.length = 0) && (okD xs && okD ys)) (.leaf (.exit 0) ((adX n1 n2).at [.l xs, .l ys, .l (sumD xs ys)])) .no
  | _ => .no
noncomputable def adL (n1 n2 : Bool) : Loops := sums (fun n => match n with | 4 => some (lsumF 2 (adT n1 n2) adLp (adTree n1 n2)) | _ => none)
theorem len_add {K m n : Nat} (hm : (D m).length ≤ K) (hn : (D n).length ≤ K) : (D (m + n)).length ≤ K + 1 := by
  have h1 := D_lt_pow m
  have h2 := D_lt_pow n
  have h3 := Nat.pow_le_pow_right (n := 10) (by decide) hm
  have h4 := Nat.pow_le_pow_right (n := 10) (by decide) hn
  refine D_len_lt ?_
  rw [Nat.pow_succ]
  omega
theorem adL_ok (n1 n2 : Bool) : loopsOk Tryd.prog (adL n1 n2) := by
  intro n g hg
  simp only [adL, sums] at hg
  split at hg
  · cases hg
    refine lsumF_ok (by cases n1 <;> cases n2 <;> kernel_rfl) (fun rd ps e1 st1 hq => ?_)
    unfold adTree at hq
    split at hq
    · rename_i c i xs ys zs
      simp only [Fin.pick] at hq
      cases hc : (decide (c = 0 ∧ i = 0 ∧ zs.length = 0) && (okD xs && okD ys)) with
      | false => rw [hc] at hq; cases hq
      | true =>
        rw [hc, cond_true] at hq
        cases hq
        simp only [Bool.and_eq_true, decide_eq_true_eq] at hc
        obtain ⟨⟨rfl, rfl, hz⟩, hx, hy⟩ := hc
        have hz := List.eq_nil_of_length_eq_zero hz
        subst hz
        obtain ⟨m, rfl, hm⟩ := okD_eq hx
        obtain ⟨n, rfl, hn⟩ := okD_eq hy
        have := ad_loop n1 n2 rd (D m) (D n) ⟨0, 0, m, n, []⟩ ⟨by dsimp only; omega, rfl, rfl, by have := len_add hm hn; dsimp only [List.length_nil, Nat.add_zero]; omega, by dsimp only; omega, rfl⟩
        dsimp only [Nat.add_zero, List.nil_append] at this
        unfold sumD
        rw [val_D, val_D, show ((m : Int) + (n : Int)).toNat = m + n by omega]
        exact this
    · cases hq
  · cases hg
theorem add_eval67 (n1 n2 : Bool) (xs ys : List Int) : evalFn Tryd.prog (orcP tabA plainL) (adL n1 n2) 200 67 Tryd.f67 [.gs 0, .gs 1] [.rs n1 1 (.ints .i64 xs), .rs n2 1 (.ints .i64 ys)] keepB =
    cond (codesB [(adLp, adLp)]) (bif decide ((0 : Int) = 0 ∧ (0 : Int) = 0 ∧ 0 = 0) && (okD xs && okD ys) then some (.gs 2, [.rs n1 1 (.ints .i64 xs), .rs n2 1 (.ints .i64 ys), .grow false 3 1 (.ints .i64 (sumD xs ys))]) else none) none := by cases n1 <;> cases n2 <;> kernel_rfl
theorem add67_fn (n1 n2 : Bool) {xs ys : List Int} (hx : okD xs = true) (hy : okD ys = true) : FnOK Tryd.prog 67 [.gs 0, .gs 1] [.rs n1 1 (.ints .i64 xs), .rs n2 1 (.ints .i64 ys)] (.gs 2) ([.rs n1 1 (.ints .i64 xs), .rs n2 1 (.ints .i64 ys)] ++ [.grow false 3 1 (.ints .i64 (sumD xs ys))]) := by
  have he := add_eval67 n1 n2 xs ys
  rw [codesS, hx, hy, decide_eq_true (show (0 : Int) = 0 ∧ (0 : Int) = 0 ∧ 0 = 0 from ⟨rfl, rfl, rfl⟩)] at he
  obtain ⟨v1, h1, hk, hok⟩ := evalFn_ok (orcP_ok tabA_ok plainL_ok) mixed Tryd.func67 (adL_ok n1 n2) (show _ = some (V.gs 2, _) from he)
  cases hk
  exact hok
/-! ### sub -/
def sbW : Nat → Nat → Nat → Nat → List Int
  | 0, _, _, _ => []
  | k + 1, m, n, c => (((if m % 10 < n % 10 + c then 10 else 0) + m % 10 - (n % 10 + c) : Nat) : Int) :: sbW k (m / 10) (n / 10) (if m % 10 < n % 10 + c then 1 else 0)
theorem sbW_len : ∀ k m n c : Nat, (sbW k m n c).length = k
  | 0, _, _, _ => rfl
  | k + 1, m, n, c => by rw [sbW, List.length_cons, sbW_len]
theorem sbW_dig : ∀ k m n c : Nat, c ≤ 1 → dig (sbW k m n c) = true
  | 0, _, _, _, _ => rfl
  | k + 1, m, n, c, hc => by
    rw [sbW, dig_cons]
    refine ⟨?_, sbW_dig k _ _ _ (by split <;> omega)⟩
    split <;> omega
theorem sbW_val : ∀ k m n c : Nat, c ≤ 1 → n + c ≤ m → m < 10 ^ k → val (sbW k m n c) = ((m - n - c : Nat) : Int)
  | 0, m, n, c, _, h, hm => by
    have : m = 0 := by simpa using hm
    subst this
    simp [sbW, val]
  | k + 1, m, n, c, hc, h, hm => by
    rw [Nat.pow_succ] at hm
    rw [sbW]
    simp only [val]
    by_cases hb : m % 10 < n % 10 + c
    · rw [if_pos hb, if_pos hb, sbW_val k (m / 10) (n / 10) 1 (by omega) (by omega) (by omega)]; omega
    · rw [if_neg hb, if_neg hb, sbW_val k (m / 10) (n / 10) 0 (by omega) (by omega) (by omega)]; omega
theorem sb_loop (n1 n2 : Bool) (rd : Option Nat) (xs ys : List Int) : ∀ x : AdX, (x.c ≤ 1 ∧ xs.drop x.i = D x.m ∧ ys.drop x.i = D x.n ∧ x.zs.length + (D x.m).length ≤ 1000000 ∧ x.i = x.zs.length) →
    SimC Tryd.prog 2 rd (.loop sbLp) ((sbT n1 n2).at [.i (x.c : Int), .i (x.i : Int), .l xs, .l ys, .l x.zs]) (.exit 0) ((sbX n1 n2).at [.l xs, .l ys, .l (x.zs ++ sbW (D x.m).length x.m x.n x.c)]) := by
  refine loop_of_rounds (C := orcP tabA plainL) (L := noLoops) (N := 200) (me := 69) (T := sbT n1 n2) (T' := sbX n1 n2) (orcP_ok tabA_ok plainL_ok) mixed noLoops_ok (by cases n1 <;> cases n2 <;> kernel_rfl) (by cases n1 <;> cases n2 <;> kernel_rfl) (X := AdX)
    (fun x => [.i (x.c : Int), .i (x.i : Int), .l xs, .l ys, .l x.zs]) (fun x => x.c ≤ 1 ∧ xs.drop x.i = D x.m ∧ ys.drop x.i = D x.n ∧ x.zs.length + (D x.m).length ≤ 1000000 ∧ x.i = x.zs.length) (fun x => x.m)
    (fun x => (.exit 0, [.l xs, .l ys, .l (x.zs ++ sbW (D x.m).length x.m x.n x.c)])) ?_
  rintro ⟨c, i, m, n, zs⟩ ⟨hc, hx, hy, hl, hz⟩
  dsimp only at hc hx hy hl hz ⊢
  obtain ⟨gx, lx, dx⟩ := head_of hx
  obtain ⟨gy, ly, dy⟩ := head_of hy
  have h := sb_round n1 n2 rd c i xs ys zs
  rw [nI_eq, nI_eq] at h
  by_cases hm : 0 < m
  · have hD := D_pos hm
    rw [hD, List.length_cons] at hl
    rw [if_pos hm] at gx
    rw [decide_eq_true (show (i : Int) < (xs.length : Int) by omega), cond_true, atI_eq gx] at h
    have fin : ∀ t : Int, t = ((m % 10 : Nat) : Int) - ((n % 10 + c : Nat) : Int) → sbK (i : Int) xs ys zs t = some (.normal, [.i (((if m % 10 < n % 10 + c then 1 else 0 : Nat)) : Int), .i ((i + 1 : Nat) : Int), .l xs, .l ys, .l (zs ++ [(((if m % 10 < n % 10 + c then 10 else 0) + m % 10 - (n % 10 + c) : Nat) : Int)])], []) := by
      intro t ht
      unfold sbK
      by_cases hb : m % 10 < n % 10 + c
      · rw [decide_eq_true (by omega), cond_true, if_pos hb, if_pos hb, fitL_true (by rw [List.length_append, List.length_singleton]; omega), cond_true, wr64 (x := t + 10) (by omega) (by omega), wr64 (x := (i : Int) + 1) (by omega) (by omega), show t + 10 = ((10 + m % 10 - (n % 10 + c) : Nat) : Int) by omega]
        rfl
      · rw [decide_eq_false (by omega), cond_false, if_neg hb, if_neg hb, fitL_true (by rw [List.length_append, List.length_singleton]; omega), cond_true, wr64 (x := (i : Int) + 1) (by omega) (by omega), show t = ((0 + m % 10 - (n % 10 + c) : Nat) : Int) by omega]
        rfl
    have h' : roundT Tryd.prog (orcP tabA plainL) noLoops 200 2 rd 69 sbLp (sbT n1 n2) (sbX n1 n2) [.i (c : Int), .i (i : Int), .l xs, .l ys, .l zs] = some (.normal, [.i (((if m % 10 < n % 10 + c then 1 else 0 : Nat)) : Int), .i ((i + 1 : Nat) : Int), .l xs, .l ys, .l (zs ++ [(((if m % 10 < n % 10 + c then 10 else 0) + m % 10 - (n % 10 + c) : Nat) : Int)])], []) := by
      rw [h]
      by_cases hn : 0 < n
      · rw [if_pos hn] at gy
        rw [decide_eq_true (show (i : Int) < (ys.length : Int) by omega), cond_true, atI_eq gy, wr64 (x := ((m % 10 : Nat) : Int) - (c : Int)) (by omega) (by omega), wr64 (by omega) (by omega)]
        exact fin _ (by omega)
      · rw [decide_eq_false (show ¬ (i : Int) < (ys.length : Int) by omega), cond_false, wr64 (by omega) (by omega)]
        exact fin _ (by omega)
    refine ⟨_, _, _, h', codes0, .inl ⟨rfl, ⟨if m % 10 < n % 10 + c then 1 else 0, i + 1, m / 10, n / 10, zs ++ [(((if m % 10 < n % 10 + c then 10 else 0) + m % 10 - (n % 10 + c) : Nat) : Int)]⟩, rfl, ⟨by dsimp only; split <;> omega, dx, dy, by dsimp only; rw [List.length_append, List.length_singleton]; omega, by dsimp only; rw [List.length_append, List.length_singleton]; omega⟩, by dsimp only; omega, ?_⟩⟩
    dsimp only
    rw [hD, List.length_cons, sbW, List.append_assoc]; rfl
  · have hm0 : m = 0 := by omega
    subst hm0
    rw [decide_eq_false (show ¬ (i : Int) < (xs.length : Int) by omega), cond_false] at h
    rw [D_zero, List.length_nil, sbW, List.append_nil]
    exact ⟨_, _, _, h, codes0, .inr ⟨by simp, rfl⟩⟩
end Go.Proofs.YthpdeiolhahobaaDoor

/- Chapter 2, the reference: sub's contract; mul: rounds and loops. -/
namespace Go.Proofs.YthpdeiolhahobaaDoor
open Go Go.Eng
def domT : FuncId → Bool := fun f => Nat.beq f 48
noncomputable abbrev orcS (LL : FuncId → Loops) : Oracle := inl Tryd.prog ftab tabA LL 200 never domT (resOrc rTab) 20
theorem orcS_ok {LL : FuncId → Loops} (hL : ∀ f, loopsOk Tryd.prog (LL f)) : OracleOk Tryd.prog (orcS LL) := inl_ok (resOrc_ok rTab_ok) ftab_ok tabA_ok hL mixed 20
def sbF (xs ys : List Int) : List Int := sbW xs.length (val xs).toNat (val ys).toNat 0
def diffD (xs ys : List Int) : List Int := D (val xs - val ys).toNat
def sbC (xs ys : List Int) : Bool := okD xs && (okD ys && decide (val ys ≤ val xs))
def sbTree (n1 n2 : Bool) : List PV → Fin
  | [.i c, .i i, .l xs, .l ys, .l zs] => .br (decide (c = 0 ∧ i = 0 ∧ zs.length = 0) && sbC xs ys) (.leaf (.exit 0) ((sbX n1 n2).at [.l xs, .l ys, .l (sbF xs ys)])) .no
  | _ => .no
noncomputable def sbL (n1 n2 : Bool) : Loops := sums (fun n => match n with | 4 => some (lsumF 2 (sbT n1 n2) sbLp (sbTree n1 n2)) | _ => none)
theorem sbL_ok (n1 n2 : Bool) : loopsOk Tryd.prog (sbL n1 n2) := by
  intro n g hg
  simp only [sbL, sums] at hg
  split at hg
  · cases hg
    refine lsumF_ok (by cases n1 <;> cases n2 <;> kernel_rfl) (fun rd ps e1 st1 hq => ?_)
    unfold sbTree at hq
    split at hq
    · rename_i c i xs ys zs
      simp only [Fin.pick] at hq
      cases hc : (decide (c = 0 ∧ i = 0 ∧ zs.length = 0) && sbC xs ys) with
      | false => rw [hc] at hq; cases hq
      | true =>
        rw [hc, cond_true] at hq
        cases hq
        simp only [sbC, Bool.and_eq_true, decide_eq_true_eq] at hc
        obtain ⟨⟨rfl, rfl, hz⟩, hx, hy, _⟩ := hc
        have hz := List.eq_nil_of_length_eq_zero hz
        subst hz
        obtain ⟨m, rfl, hm⟩ := okD_eq hx
        obtain ⟨n, rfl, hn⟩ := okD_eq hy
        have := sb_loop n1 n2 rd (D m) (D n) ⟨0, 0, m, n, []⟩ ⟨by dsimp only; omega, rfl, rfl, by dsimp only [List.length_nil]; omega, rfl⟩
        dsimp only [Nat.add_zero, List.nil_append] at this
        unfold sbF
        rw [val_D, val_D]
        exact this
    · cases hq
  · cases hg
theorem sub_eval69 (n1 n2 : Bool) (xs ys : List Int) : evalFn Tryd.prog (orcS plainL) (sbL n1 n2) 200 69 Tryd.f69 [.gs 0, .gs 1] [.rs n1 1 (.ints .i64 xs), .rs n2 1 (.ints .i64 ys)] keepB =
    cond (codesB [(sbLp, sbLp)]) (bif decide ((0 : Int) = 0 ∧ (0 : Int) = 0 ∧ 0 = 0) && sbC xs ys then bif decide ((sbF xs ys).length ≤ 9223372036854775807) then
      some (.gs 3, [.rs n1 1 (.ints .i64 xs), .rs n2 1 (.ints .i64 ys), .dead, .grow false 3 1 (.ints .i64 (List.take (tz (sbF xs ys)).length (sbF xs ys)))]) else none else none) none := by cases n1 <;> cases n2 <;> kernel_rfl
theorem two_ro {n1 n2 : Bool} {xs ys : List Int} : ∀ (b : Nat) blk, ([.rs n1 1 (.ints .i64 xs), .rs n2 1 (.ints .i64 ys)] : List Blk)[b]? = some blk → blk.mine = false := by
  intro b blk hb
  match b, hb with
  | 0, hb => cases hb; rfl
  | 1, hb => cases hb; rfl
  | _ + 2, hb => simp at hb
theorem sub69_fn (n1 n2 : Bool) {xs ys : List Int} (h : sbC xs ys = true) : FnOK Tryd.prog 69 [.gs 0, .gs 1] [.rs n1 1 (.ints .i64 xs), .rs n2 1 (.ints .i64 ys)] (.gs 2) ([.rs n1 1 (.ints .i64 xs), .rs n2 1 (.ints .i64 ys)] ++ [.grow false 3 1 (.ints .i64 (diffD xs ys))]) := by
  have he := sub_eval69 n1 n2 xs ys
  have h2 := h
  simp only [sbC, Bool.and_eq_true, decide_eq_true_eq] at h2
  obtain ⟨hx, hy, hle⟩ := h2
  obtain ⟨m, rfl, hm⟩ := okD_eq hx
  obtain ⟨n, rfl, hn⟩ := okD_eq hy
  have hlen : (sbF (D m) (D n)).length = (D m).length := sbW_len _ _ _ _
  rw [val_D, val_D] at hle
  have hz : List.take (tz (sbF (D m) (D n))).length (sbF (D m) (D n)) = diffD (D m) (D n) := by
    rw [← tz_prefix]
    unfold sbF diffD
    rw [tz_val (sbW_dig _ _ _ 0 (by omega))]
    rw [val_D, val_D, sbW_val _ _ _ _ (by omega) (by omega) (by have := D_lt_pow m; exact this), show ((((m : Int)).toNat - ((n : Int)).toNat - 0 : Nat) : Int) = (m : Int) - (n : Int) by omega]
  rw [codesS, h, decide_eq_true (show (0 : Int) = 0 ∧ (0 : Int) = 0 ∧ 0 = 0 from ⟨rfl, rfl, rfl⟩), Bool.and_self, cond_true, cond_true, decide_eq_true (by omega), cond_true, hz] at he
  obtain ⟨v1, h1, hk, hok⟩ := evalFn_ok (orcS_ok plainL_ok) mixed Tryd.func69 (sbL_ok n1 n2) he
  simp only [keepB, Option.some.injEq, Prod.mk.injEq] at hk
  obtain ⟨rfl, rfl⟩ := hk
  exact FnOK.last (h := [.rs n1 1 (.ints .i64 (D m)), .rs n2 1 (.ints .i64 (D n))]) (nb := [.dead]) (nn := false) (ty := 3) (sz := 1) (row := .ints .i64 (diffD (D m) (D n))) hok rfl two_ro
/-! ### mul -/
def mrow (x : Int) : List Int → Nat → List Int → List Int
  | [], _, zs => zs
  | y :: r, p, zs => mrow x r (p + 1) (zs.set p (zs.getD p 0 + x * y))
def mall (ys : List Int) : List Int → Nat → List Int → List Int
  | [], _, zs => zs
  | x :: r, i, zs => mall ys r (i + 1) (mrow x ys i zs)
theorem mrow_len (x : Int) : ∀ (r : List Int) (p : Nat) (zs : List Int), (mrow x r p zs).length = zs.length
  | [], _, _ => rfl
  | y :: r, p, zs => by rw [mrow, mrow_len x r]; simp
theorem mall_len (ys : List Int) : ∀ (r : List Int) (p : Nat) (zs : List Int), (mall ys r p zs).length = zs.length
  | [], _, _ => rfl
  | x :: r, p, zs => by rw [mall, mall_len ys r, mrow_len]
theorem val_set : ∀ {zs : List Int} {p : Nat} (d : Int), p < zs.length → val (zs.set p (zs.getD p 0 + d)) = val zs + 10 ^ p * d
  | [], p, d, h => by simp at h
  | z :: r, 0, d, _ => by simp [val]; omega
  | z :: r, p + 1, d, h => by
    simp only [List.set_cons_succ, List.getD_cons_succ, val]
    rw [val_set d (by simpa using h), Int.pow_succ, Int.mul_add, ← Int.mul_assoc, Int.mul_comm 10 (10 ^ p), Int.add_assoc]
theorem mrow_val (x : Int) : ∀ {r : List Int} {p : Nat} {zs : List Int}, p + r.length ≤ zs.length → val (mrow x r p zs) = val zs + 10 ^ p * (x * val r)
  | [], p, zs, _ => by simp [mrow, val]
  | y :: r, p, zs, h => by
    rw [List.length_cons] at h
    rw [mrow, mrow_val x (by rw [List.length_set]; omega), val_set _ (by omega)]
    simp only [val]
    rw [Int.mul_add x, Int.mul_add (10 ^ p), Int.pow_succ, Int.add_assoc]
    congr 2
    rw [Int.mul_assoc, ← Int.mul_assoc x 10, Int.mul_comm x 10, Int.mul_assoc]
theorem mall_val (ys : List Int) : ∀ {r : List Int} {i : Nat} {zs : List Int}, i + r.length + ys.length ≤ zs.length → val (mall ys r i zs) = val zs + 10 ^ i * (val r * val ys)
  | [], i, zs, _ => by simp [mall, val]
  | x :: r, i, zs, h => by
    rw [List.length_cons] at h
    rw [mall, mall_val ys (by rw [mrow_len]; omega), mrow_val x (by omega)]
    simp only [val]
    rw [Int.add_mul, Int.mul_add (10 ^ i), Int.pow_succ, Int.add_assoc]
    congr 2
    rw [Int.mul_assoc, Int.mul_assoc 10]
/-- Whole numbers from 0 to a bound. -/
def bnd (b : Nat) (l : List Int) : Prop := ∀ z ∈ l, 0 ≤ z ∧ z ≤ (b : Int)
theorem bnd_mono {b c : Nat} {l : List Int} (h : bnd b l) (hb : b ≤ c) : bnd c l := fun z hz => ⟨(h z hz).1, by have := (h z hz).2; omega⟩
theorem bnd_get {b : Nat} {l : List Int} (h : bnd b l) (p : Nat) : 0 ≤ l.getD p 0 ∧ l.getD p 0 ≤ (b : Int) := by
  rw [List.getD_eq_getElem?_getD]
  cases hp : l[p]? with
  | none => simp
  | some z => exact h z (List.mem_of_getElem? hp)
theorem bnd_set {b : Nat} {l : List Int} (h : bnd b l) {p : Nat} {d : Int} (hd : 0 ≤ d ∧ d ≤ 81) : bnd (b + 81) (l.set p (l.getD p 0 + d)) := fun z hz => by
  rcases List.mem_or_eq_of_mem_set hz with hz | rfl
  · have := h z hz; omega
  · have := bnd_get h p; omega
theorem mrow_bnd {x : Int} (hx : 0 ≤ x ∧ x < 10) : ∀ {r : List Int} {p b : Nat} {zs : List Int}, dig r = true → bnd b zs → bnd (b + 81 * r.length) (mrow x r p zs)
  | [], p, b, zs, _, h => by simpa [mrow] using h
  | y :: r, p, b, zs, hd, h => by
    rw [dig_cons] at hd
    have hp : 0 ≤ x * y ∧ x * y ≤ 81 := by
      refine ⟨Int.mul_nonneg hx.1 hd.1.1, ?_⟩
      have := Int.mul_le_mul (show x ≤ 9 by omega) (show y ≤ 9 by omega) hd.1.1 (by decide)
      omega
    rw [mrow, List.length_cons]
    exact bnd_mono (mrow_bnd hx hd.2 (bnd_set h hp)) (by omega)
theorem getD_some {l : List Int} {p : Nat} (h : p < l.length) : l[p]? = some (l.getD p 0) := by rw [List.getD_eq_getElem?_getD, List.getElem?_eq_getElem h]; rfl
theorem drop_cons {l : List Int} {p : Nat} (h : p < l.length) : l.drop p = l.getD p 0 :: l.drop (p + 1) := by
  rw [List.drop_eq_getElem_cons h, List.getD_eq_getElem?_getD, List.getElem?_eq_getElem h]; rfl
theorem dig_get {l : List Int} (h : dig l = true) (p : Nat) : 0 ≤ l.getD p 0 ∧ l.getD p 0 < 10 := by
  rw [List.getD_eq_getElem?_getD]
  cases hp : l[p]? with
  | none => simp
  | some z => exact dig_mem h (List.mem_of_getElem? hp)
theorem dig_drop {l : List Int} (h : dig l = true) (p : Nat) : dig (l.drop p) = true := by
  have := h
  rw [← List.take_append_drop p l, dig_append] at this
  exact this.2
/-- What holds of the cells while a row is reckoned. -/
def mInv (b : Nat) (xs ys zs : List Int) : Prop := dig xs = true ∧ dig ys = true ∧ xs.length ≤ 1000000 ∧ ys.length ≤ 1000000 ∧ zs.length = xs.length + ys.length ∧ bnd b zs ∧ b ≤ 1000000000000000
theorem ml_loop2 (n1 n2 : Bool) (rd : Option Nat) (xs ys : List Int) (c : Nat) (hc : c < xs.length) : ∀ x : Nat × Nat × List Int, (mInv x.2.1 xs ys x.2.2 ∧ x.1 ≤ ys.length ∧ x.2.1 + 81 * (ys.length - x.1) ≤ 1000000000000000) →
    SimC Tryd.prog 2 rd (.loop mlLp2) ((mlT2 n1 n2).at [.i (c : Int), .i (x.1 : Int), .l xs, .l ys, .l x.2.2]) (.exit 2) ((mlT1 n1 n2).at [.i (c : Int), .l xs, .l ys, .l (mrow (xs.getD c 0) (ys.drop x.1) (c + x.1) x.2.2)]) := by
  refine loop_of_rounds (C := orcP tabA plainL) (L := noLoops) (N := 200) (me := 49) (T := mlT2 n1 n2) (T' := mlT1 n1 n2) (orcP_ok tabA_ok plainL_ok) mixed noLoops_ok (by cases n1 <;> cases n2 <;> kernel_rfl) (by cases n1 <;> cases n2 <;> kernel_rfl) (X := Nat × Nat × List Int)
    (fun x => [.i (c : Int), .i (x.1 : Int), .l xs, .l ys, .l x.2.2]) (fun x => mInv x.2.1 xs ys x.2.2 ∧ x.1 ≤ ys.length ∧ x.2.1 + 81 * (ys.length - x.1) ≤ 1000000000000000) (fun x => ys.length - x.1)
    (fun x => (.exit 2, [.i (c : Int), .l xs, .l ys, .l (mrow (xs.getD c 0) (ys.drop x.1) (c + x.1) x.2.2)])) ?_
  rintro ⟨j, b, zs⟩ ⟨⟨hx, hy, lx, ly, lz, hb, hbb⟩, hj, hbj⟩
  dsimp only at hx hy lx ly lz hb hbb hj hbj ⊢
  have h := ml_round2 n1 n2 rd c j xs ys zs
  rw [nI_eq] at h
  rcases Nat.lt_or_ge j ys.length with hlt | hge
  · have gx := dig_get hx c
    have gy := dig_get hy j
    have gz := bnd_get hb (c + j)
    have hp : 0 ≤ xs.getD c 0 * ys.getD j 0 ∧ xs.getD c 0 * ys.getD j 0 ≤ 81 := by
      refine ⟨Int.mul_nonneg gx.1 gy.1, ?_⟩
      have := Int.mul_le_mul (show xs.getD c 0 ≤ 9 by omega) (show ys.getD j 0 ≤ 9 by omega) gy.1 (by decide)
      omega
    have hw : wr .i64 ((c : Int) + (j : Int)) = ((c + j : Nat) : Int) := by rw [wr64 (by omega) (by omega)]; omega
    rw [decide_eq_true (by omega), cond_true, hw, atI_eq (getD_some (l := zs) (p := c + j) (by omega)), atI_eq (getD_some hc), atI_eq (getD_some hlt)] at h
    unfold mlK at h
    rw [hw, nI_eq, decide_eq_true (by omega), decide_eq_true (by omega), cond_true, cond_true, wr64 (x := xs.getD c 0 * ys.getD j 0) (by omega) (by omega), wr64 (x := zs.getD (c + j) 0 + xs.getD c 0 * ys.getD j 0) (by omega) (by omega), wr64 (x := (j : Int) + 1) (by omega) (by omega), show (((c + j : Nat) : Int)).toNat = c + j by omega] at h
    refine ⟨_, _, _, h, codes0, .inl ⟨rfl, (j + 1, b + 81, zs.set (c + j) (zs.getD (c + j) 0 + xs.getD c 0 * ys.getD j 0)), rfl, ⟨⟨hx, hy, lx, ly, by dsimp only; rw [List.length_set]; exact lz, bnd_set hb hp, by dsimp only; omega⟩, by dsimp only; omega, by dsimp only; omega⟩, by dsimp only; omega, ?_⟩⟩
    dsimp only
    rw [drop_cons hlt, mrow, Nat.add_assoc]
  · rw [decide_eq_false (by omega), cond_false] at h
    rw [List.drop_eq_nil_of_le hge, mrow]
    exact ⟨_, _, _, h, codes0, .inr ⟨by simp, rfl⟩⟩
end Go.Proofs.YthpdeiolhahobaaDoor

/- Chapter 2, the reference: mul: the outer loop. -/
namespace Go.Proofs.YthpdeiolhahobaaDoor
open Go Go.Eng
noncomputable def mlTree2 (n1 n2 : Bool) : List PV → Fin
  | [.i c, .i j, .l xs, .l ys, .l zs] => .br (decide (j = 0 ∧ 0 ≤ c ∧ c < nI xs) && pB (mInv (81 * (c.toNat * ys.length)) xs ys zs)) (.leaf (.exit 2) ((mlT1 n1 n2).at [.i c, .l xs, .l ys, .l (mrow (xs.getD c.toNat 0) ys c.toNat zs)])) .no
  | _ => .no
noncomputable def mlL2 (n1 n2 : Bool) : Loops := sums (fun n => match n with | 6 => some (lsumF 2 (mlT2 n1 n2) mlLp2 (mlTree2 n1 n2)) | _ => none)
theorem mul_lt {a b c : Nat} (h : a < b) : a * c + c ≤ b * c := by
  have := Nat.mul_le_mul_right c (show a + 1 ≤ b from h)
  rw [Nat.add_mul, Nat.one_mul] at this
  exact this
theorem mul_big {a b : Nat} (ha : a ≤ 1000000) (hb : b ≤ 1000000) : a * b ≤ 1000000000000 := by
  have := Nat.mul_le_mul ha hb
  omega
theorem mlL2_ok (n1 n2 : Bool) : loopsOk Tryd.prog (mlL2 n1 n2) := by
  intro n g hg
  simp only [mlL2, sums] at hg
  split at hg
  · cases hg
    refine lsumF_ok (by cases n1 <;> cases n2 <;> kernel_rfl) (fun rd ps e1 st1 hq => ?_)
    unfold mlTree2 at hq
    split at hq
    · rename_i c j xs ys zs
      simp only [Fin.pick] at hq
      cases hc : (decide (j = 0 ∧ 0 ≤ c ∧ c < nI xs) && pB (mInv (81 * (c.toNat * ys.length)) xs ys zs)) with
      | false => rw [hc] at hq; cases hq
      | true =>
        rw [hc, cond_true] at hq
        cases hq
        simp only [Bool.and_eq_true, decide_eq_true_eq, pB_iff] at hc
        obtain ⟨⟨rfl, h0, h1⟩, hm⟩ := hc
        rw [nI_eq] at h1
        obtain ⟨k, rfl⟩ : ∃ k : Nat, c = k := ⟨c.toNat, by omega⟩
        rw [show ((k : Int)).toNat = k from rfl] at hm ⊢
        have h2 := mul_lt (c := ys.length) (show k < xs.length by omega)
        have h3 := mul_big hm.2.2.1 hm.2.2.2.1
        have := ml_loop2 n1 n2 rd xs ys k (by omega) (0, 81 * (k * ys.length), zs) ⟨hm, Nat.zero_le _, by dsimp only; omega⟩
        dsimp only at this
        rw [List.drop_zero, Nat.add_zero] at this
        exact this
    · cases hq
  · cases hg
end Go.Proofs.YthpdeiolhahobaaDoor
