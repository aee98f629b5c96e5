/- Texts merged: E8, ADg, ATr. -/
import Derived.Test.YtpalajfcffdhoaaGreatE5
import Derived.Test.YtpalajfcffdhoaaGreatAW
import Derived.Test.YtpalajfcffdhoaaGreatANat2
import Derived.Test.YtpalajfcffdhoaaGreatEng4
/- Chapter 6, the reference: choose: its loops and its contract. -/
namespace Go.Proofs.YtpalajfcffdhoaaGreat
open Go Go.Eng Go.Deal
/-- A row of Pascal's triangle, its first m numbers. -/
def PR (i m : Nat) : List Int := (List.range m).map fun t => ((bc i t : Nat) : Int)
theorem PR_len (i m : Nat) : (PR i m).length = m := by unfold PR; rw [List.length_map, List.length_range]
theorem PR_get {i m t : Nat} (h : t < m) : (PR i m)[t]? = some ((bc i t : Nat) : Int) := by
  unfold PR; rw [List.getElem?_map, List.getElem?_range h]; rfl
theorem PR_s (i m : Nat) : PR i (m + 1) = PR i m ++ [((bc i m : Nat) : Int)] := by
  unfold PR; rw [List.range_succ, List.map_append]; rfl
theorem bc52 {n k : Nat} (h : n ≤ 52) : bc n k < 4503599627370497 := bc_52 h
theorem ciS_n {i j : Nat} (hi : i ≤ 51) (h1 : 1 ≤ j) (hj : j < i + 1) (K : Int → RT) : ciS (j : Int) (PR i (i + 1)) K = K ((bc (i + 1) j : Nat) : Int) := by
  obtain ⟨t, rfl⟩ : ∃ t, j = t + 1 := ⟨j - 1, by omega⟩
  unfold ciS
  have w : wr .i64 (((t + 1 : Nat) : Int) - 1) = (t : Int) := by rw [show ((t + 1 : Nat) : Int) - 1 = (t : Int) by omega]; exact wr64 (by omega) (by omega)
  have l : Int.ofNat (PR i (i + 1)).length = ((i + 1 : Nat) : Int) := by rw [PR_len]; rfl
  have b1 := bc52 (n := i) (k := t) (by omega)
  have b2 := bc52 (n := i) (k := t + 1) (by omega)
  rw [w, l, Int.toNat_natCast, Int.toNat_natCast, PR_get (by omega), PR_get (by omega), decide_eq_true (show 0 ≤ (t : Int) ∧ (t : Int) < ((i + 1 : Nat) : Int) by omega), decide_eq_true (show 0 ≤ ((t + 1 : Nat) : Int) ∧ ((t + 1 : Nat) : Int) < ((i + 1 : Nat) : Int) by omega), cond_true]
  simp only []
  rw [cond_true, ← Int.natCast_add, wr64 (by omega) (by omega), show bc i t + bc i (t + 1) = bc (i + 1) (t + 1) from rfl]
theorem ciX_ok (e : XE) : (ciX e).ok = true := by kernel_rfl
theorem coX_ok (e : XE) : (coX e).ok = true := by kernel_rfl
theorem orc0C_ok : OracleOk Tryz.prog orc0C := orcN_ok emptyTab_ok plainL_ok
theorem ci_loop (rd : Option Nat) (n k : Int) (i : Nat) (hi : i ≤ 51) : ∀ j : Nat, (1 ≤ j ∧ j ≤ i + 1) → ∃ q, SimL Tryz.prog 0 rd ciLp q ((ciT iR).at [.i n, .i k, .i (i : Int), .i (j : Int), .l (PR i (i + 1)), .l (PR (i + 1) j)]) (.exit 2) ((ciX (.exit 2)).at [.i n, .i k, .i (i : Int), .l (PR (i + 1) (i + 1))]) := by
  refine loop_of_roundsX_n (C := orc0C) (L := noLoops) (N := 100) (me := 51) (T := ciT iR) (T' := ciX) orc0C_ok mixed noLoops_ok (by kernel_rfl) ciX_ok (X := Nat)
    (fun j => [.i n, .i k, .i (i : Int), .i (j : Int), .l (PR i (i + 1)), .l (PR (i + 1) j)]) (fun j => 1 ≤ j ∧ j ≤ i + 1) (fun j => i + 1 - j) (fun _ => (.exit 2, [.i n, .i k, .i (i : Int), .l (PR (i + 1) (i + 1))])) ?_
  intro j hj
  have h := ci_round rd n k (i : Int) (j : Int) (PR i (i + 1)) (PR (i + 1) j)
  by_cases hlt : j < i + 1
  · rw [decide_eq_true (show (j : Int) < Int.ofNat (PR i (i + 1)).length by rw [PR_len]; show (j : Int) < ((i + 1 : Nat) : Int); omega), cond_true, ciS_n hi hj.1 hlt, ← PR_s, decide_eq_true (show (PR (i + 1) (j + 1)).length * 9 ≤ 70368744177664 by rw [PR_len]; omega), cond_true, wr64 (by omega) (by omega)] at h
    exact ⟨_, _, _, h, codesNil, .inl ⟨rfl, j + 1, rfl, by omega, by omega, rfl⟩⟩
  · have hje : j = i + 1 := by omega
    rw [decide_eq_false (show ¬ (j : Int) < Int.ofNat (PR i (i + 1)).length by rw [PR_len]; show ¬ (j : Int) < ((i + 1 : Nat) : Int); omega), cond_false] at h
    exact ⟨_, _, _, h, codesNil, .inr ⟨(fun h => by cases h), by rw [hje]⟩⟩
theorem ci_all (rd : Option Nat) (n k : Int) (i : Nat) (hi : i ≤ 51) : SimC Tryz.prog 0 rd (.loop ciLp) ((ciT ccT).at [.i n, .i k, .i (i : Int), .i 1, .l (PR i (i + 1)), .i 1]) (.exit 2) ((ciX (.exit 2)).at [.i n, .i k, .i (i : Int), .l (PR (i + 1) (i + 1))]) := by
  have h := ci_first rd n k (i : Int) ((1 : Nat) : Int) 1 (PR i (i + 1))
  by_cases hlt : 1 < i + 1
  · rw [decide_eq_true (show ((1 : Nat) : Int) < Int.ofNat (PR i (i + 1)).length by rw [PR_len]; show ((1 : Nat) : Int) < ((i + 1 : Nat) : Int); omega), cond_true, ciS_n hi (by omega) hlt, wr64 (by omega) (by omega)] at h
    have e2 : [(1 : Int), ((bc (i + 1) 1 : Nat) : Int)] = PR (i + 1) 2 := by
      unfold PR; simp [List.range_succ, bc_zero]
    rw [e2] at h
    obtain ⟨q, hq⟩ := ci_loop rd n k i hi 2 (by omega)
    exact loop_peelX orc0C_ok mixed noLoops_ok (by kernel_rfl) ciX_ok h codesNil hq
  · have hi0 : i = 0 := by omega
    subst hi0
    rw [decide_eq_false (show ¬ ((1 : Nat) : Int) < Int.ofNat (PR 0 (0 + 1)).length by rw [PR_len]; decide), cond_false] at h
    exact loop_leaveX orc0C_ok mixed noLoops_ok (by kernel_rfl) ciX_ok h codesNil (fun h => by cases h)
def ciC (i j : Int) (xs : List Int) (y : Int) : Bool := decide (0 ≤ i ∧ i ≤ 51 ∧ j = 1 ∧ y = 1 ∧ xs = PR i.toNat (i.toNat + 1))
def ciR (i : Int) : List Int := PR (i.toNat + 1) (i.toNat + 1)
theorem ciL_ok : loopsOk Tryz.prog (ciL ciC ciR) := by
  intro n g hg
  simp only [ciL, sums] at hg
  split at hg
  · cases hg
    refine lsumF_ok (by kernel_rfl) (fun rd ps e1 s1 h => ?_)
    unfold ciTr at h
    split at h
    · rename_i n k i j xs y
      simp only [Fin.pick] at h
      cases hc : ciC i j xs y with
      | false => rw [hc] at h; cases h
      | true =>
        rw [hc, cond_true] at h
        unfold ciC at hc
        rw [decide_eq_true_eq] at hc
        obtain ⟨h1, h2, rfl, rfl, rfl⟩ := hc
        obtain ⟨i, rfl⟩ : ∃ x : Nat, i = x := ⟨i.toNat, by omega⟩
        have hl := ci_all rd n k i (by omega)
        unfold ciR at h
        rw [Int.toNat_natCast] at h ⊢
        cases h
        exact hl
    · cases h
  · cases hg
/-! ### the outer loop -/
theorem co_round (C : Int → Int → List Int → Int → Bool) (R : Int → List Int) (rd : Option Nat) (n k i : Int) (xs : List Int) : roundX Tryz.prog orc0C (ciL C R) 100 0 rd 51 coLp (coT iR) (coT iR) coX [.i n, .i k, .i i, .l xs] =
    bif decide (i < n) then bif codesB [(ciLp, ciLp)] then bif C i 1 xs 1 then bif decide ((R i ++ [1]).length * 9 ≤ 70368744177664) then some (.normal, [.i n, .i k, .i (wr .i64 (i + 1)), .l (R i ++ [1])], []) else none else none else none
    else some (.exit 0, [.i n, .i k, .l xs], []) := by kernel_rfl
theorem PR_full (i : Nat) : PR (i + 1) (i + 1) ++ [1] = PR (i + 1) (i + 2) := by
  rw [PR_s (i + 1) (i + 1), bc_self]; rfl
theorem co_loop (rd : Option Nat) (n : Nat) (k : Int) (hn : n ≤ 52) : ∀ i : Nat, i ≤ n → ∃ q, SimL Tryz.prog 0 rd coLp q ((coT iR).at [.i (n : Int), .i k, .i (i : Int), .l (PR i (i + 1))]) (.exit 0) ((coX (.exit 0)).at [.i (n : Int), .i k, .l (PR n (n + 1))]) := by
  refine loop_of_roundsX_n (C := orc0C) (L := ciL ciC ciR) (N := 100) (me := 51) (T := coT iR) (T' := coX) orc0C_ok mixed ciL_ok (by kernel_rfl) coX_ok (X := Nat)
    (fun i => [.i (n : Int), .i k, .i (i : Int), .l (PR i (i + 1))]) (fun i => i ≤ n) (fun i => n - i) (fun _ => (.exit 0, [.i (n : Int), .i k, .l (PR n (n + 1))])) ?_
  intro i hi
  have h := co_round ciC ciR rd (n : Int) k (i : Int) (PR i (i + 1))
  by_cases hlt : i < n
  · have hc : ciC (i : Int) 1 (PR i (i + 1)) 1 = true := by
      unfold ciC
      rw [decide_eq_true_eq, Int.toNat_natCast]
      exact ⟨by omega, by omega, rfl, rfl, rfl⟩
    have hr : ciR (i : Int) ++ [1] = PR (i + 1) (i + 2) := by unfold ciR; rw [Int.toNat_natCast, PR_full]
    rw [decide_eq_true (show (i : Int) < (n : Int) by omega), cond_true, codesD, cond_true, hc, cond_true, hr, decide_eq_true (show (PR (i + 1) (i + 2)).length * 9 ≤ 70368744177664 by rw [PR_len]; omega), cond_true, wr64 (by omega) (by omega)] at h
    exact ⟨_, _, _, h, codesNil, .inl ⟨rfl, i + 1, rfl, by omega, by omega, rfl⟩⟩
  · have hie : i = n := by omega
    rw [decide_eq_false (show ¬ (i : Int) < (n : Int) by omega), cond_false] at h
    exact ⟨_, _, _, h, codesNil, .inr ⟨(fun h => by cases h), by rw [hie]⟩⟩
theorem co_all (rd : Option Nat) (n : Nat) (k : Int) (hn : n ≤ 52) : SimC Tryz.prog 0 rd (.loop coLp) ((coT ccT).at [.i (n : Int), .i k, .i 0, .i 1]) (.exit 0) ((coX (.exit 0)).at [.i (n : Int), .i k, .l (PR n (n + 1))]) := by
  have h := co_first rd (n : Int) k 1
  by_cases hlt : 0 < n
  · rw [decide_eq_true (show (0 : Int) < (n : Int) by omega), cond_true] at h
    obtain ⟨q, hq⟩ := co_loop rd n k hn 1 (by omega)
    exact loop_peelX orc0C_ok mixed noLoops_ok (by kernel_rfl) coX_ok h codesNil hq
  · have hn0 : n = 0 := by omega
    subst hn0
    rw [decide_eq_false (show ¬ (0 : Int) < ((0 : Nat) : Int) by decide), cond_false] at h
    exact loop_leaveX orc0C_ok mixed noLoops_ok (by kernel_rfl) coX_ok h codesNil (fun h => by cases h)
section
variable (C : Int → Int → Int → Bool) (R : Int → List Int)
noncomputable def coTr : List PV → Fin
  | [.i n, .i k, .i i, .i y] => .br (C n i y) (.leaf (.exit 0) ((coX (.exit 0)).at [.i n, .i k, .l (R n)])) .no
  | _ => .no
noncomputable def coL : Loops := sums (fun n => match n with | 3 => some (lsumF 0 (coT ccT) coLp (coTr C R)) | _ => none)
theorem choose_eval (n k : Int) : evalFn Tryz.prog orc0C (coL C R) 100 51 Tryz.f51 [.int .i64 n, .int .i64 k] [] (fun v _ => some v) =
    bif codesB [(coLp, coLp)] then bif C n 0 1 then bif decide (n < k) then some (.int .i64 0) else bif decide (0 ≤ k ∧ k < Int.ofNat (R n).length) then (match (R n)[k.toNat]? with | some v => some (.int .i64 v) | none => none) else none else none else none := by kernel_rfl
end
def coC (n i y : Int) : Bool := decide (0 ≤ n ∧ n ≤ 52 ∧ i = 0 ∧ y = 1)
def coR (n : Int) : List Int := PR n.toNat (n.toNat + 1)
theorem coL_ok : loopsOk Tryz.prog (coL coC coR) := by
  intro n g hg
  simp only [coL, sums] at hg
  split at hg
  · cases hg
    refine lsumF_ok (by kernel_rfl) (fun rd ps e1 s1 h => ?_)
    unfold coTr at h
    split at h
    · rename_i n k i y
      simp only [Fin.pick] at h
      cases hc : coC n i y with
      | false => rw [hc] at h; cases h
      | true =>
        rw [hc, cond_true] at h
        unfold coC at hc
        rw [decide_eq_true_eq] at hc
        obtain ⟨h1, h2, rfl, rfl⟩ := hc
        obtain ⟨n, rfl⟩ : ∃ x : Nat, n = x := ⟨n.toNat, by omega⟩
        have hl := co_all rd n k (by omega)
        unfold coR at h
        rw [Int.toNat_natCast] at h
        cases h
        exact hl
    · cases h
  · cases hg
def bcI (n k : Int) : Int := ((bc n.toNat k.toNat : Nat) : Int)
def bcK (n k : Int) : Bool := decide (0 ≤ n ∧ n ≤ 52 ∧ 0 ≤ k)
theorem choose_p {n k : Int} (h : bcK n k = true) : FnPure Tryz.prog 51 [.int .i64 n, .int .i64 k] (.int .i64 (bcI n k)) := by
  unfold bcK at h
  rw [decide_eq_true_eq] at h
  obtain ⟨n, rfl⟩ : ∃ x : Nat, n = x := ⟨n.toNat, by omega⟩
  obtain ⟨k, rfl⟩ : ∃ x : Nat, k = x := ⟨k.toNat, by omega⟩
  refine fnPure_of_eval (N := 100) orc0C_ok mixed Tryz.func51 (by kernel_rfl) coL_ok ?_ rfl rfl
  refine (choose_eval coC coR _ _).trans ?_
  have hc : coC (n : Int) 0 1 = true := by unfold coC; rw [decide_eq_true_eq]; omega
  unfold bcI
  rw [codesD, cond_true, hc, cond_true, show coR (n : Int) = PR n (n + 1) by (unfold coR; rw [Int.toNat_natCast]), Int.toNat_natCast, Int.toNat_natCast]
  by_cases q : n < k
  · rw [decide_eq_true (show (n : Int) < (k : Int) by omega), cond_true, bc_big q]; rfl
  · rw [decide_eq_false (show ¬ (n : Int) < (k : Int) by omega), cond_false, PR_len, decide_eq_true (show 0 ≤ (k : Int) ∧ (k : Int) < Int.ofNat (n + 1) from ⟨by omega, by show (k : Int) < ((n + 1 : Nat) : Int); omega⟩), cond_true, PR_get (by omega)]
end Go.Proofs.YtpalajfcffdhoaaGreat

/- Chapter 2: decimal digits, plainly (the lowest one first). -/
namespace Go.Proofs.YtpalajfcffdhoaaGreat.N2
open Go Go.Eng
def Dg : Nat → Nat → List Int
  | 0, _ => []
  | k + 1, n => if n = 0 then [] else ((n % 10 : Nat) : Int) :: Dg k (n / 10)
theorem Dg_eq : ∀ {k m n : Nat}, n ≤ k → n ≤ m → Dg k n = Dg m n
  | 0, 0, _, _, _ => rfl
  | 0, m + 1, n, h, _ => by
    obtain rfl : n = 0 := by omega
    simp [Dg]
  | k + 1, 0, n, _, h => by
    obtain rfl : n = 0 := by omega
    simp [Dg]
  | k + 1, m + 1, n, h1, h2 => by
    simp only [Dg]
    by_cases h0 : n = 0
    · simp [h0]
    · rw [if_neg h0, if_neg h0, Dg_eq (k := k) (m := m) (by omega) (by omega)]
/-- The digits of a number. -/
def D (n : Nat) : List Int := Dg n n
theorem D_zero : D 0 = [] := rfl
theorem D_pos {n : Nat} (h : 0 < n) : D n = ((n % 10 : Nat) : Int) :: D (n / 10) := by
  obtain ⟨k, rfl⟩ : ∃ k, n = k + 1 := ⟨n - 1, by omega⟩
  show Dg (k + 1) (k + 1) = _
  simp only [Dg]
  rw [if_neg (by omega)]
  unfold D
  rw [Dg_eq (k := k) (m := (k + 1) / 10) (by omega) (by omega)]
def val : List Int → Int
  | [] => 0
  | d :: r => d + 10 * val r
/-- Digits. -/
def dig (l : List Int) : Bool := l.all fun d => decide (0 ≤ d ∧ d < 10)
theorem dig_cons {d : Int} {r : List Int} : dig (d :: r) = true ↔ (0 ≤ d ∧ d < 10) ∧ dig r = true := by simp [dig]
theorem dig_nil : dig [] = true := rfl
theorem dig_mem {l : List Int} (h : dig l = true) {d : Int} (hd : d ∈ l) : 0 ≤ d ∧ d < 10 := by
  have := List.all_eq_true.1 h d hd
  simpa using this
theorem dig_append {a b : List Int} : dig (a ++ b) = true ↔ dig a = true ∧ dig b = true := by simp [dig]
theorem val_nonneg : ∀ {l : List Int}, dig l = true → 0 ≤ val l
  | [], _ => by simp [val]
  | d :: r, h => by
    rw [dig_cons] at h
    have := val_nonneg h.2
    simp only [val]; omega
theorem val_lt : ∀ {l : List Int}, dig l = true → val l < 10 ^ l.length
  | [], _ => by simp [val]
  | d :: r, h => by
    rw [dig_cons] at h
    have := val_lt h.2
    simp only [val, List.length_cons, Int.pow_succ]; omega
theorem dig_D : ∀ n : Nat, dig (D n) = true := fun n => by
  induction n using Nat.strongRecOn with
  | _ n ih =>
    rcases Nat.eq_zero_or_pos n with rfl | h
    · rfl
    · rw [D_pos h, dig_cons]
      exact ⟨by omega, ih (n / 10) (by omega)⟩
theorem val_D : ∀ n : Nat, val (D n) = n := fun n => by
  induction n using Nat.strongRecOn with
  | _ n ih =>
    rcases Nat.eq_zero_or_pos n with rfl | h
    · rfl
    · rw [D_pos h]
      simp only [val]
      rw [ih (n / 10) (by omega)]
      omega
/-- Without zeros at the end. -/
def tz : List Int → List Int
  | [] => []
  | d :: r => match tz r with
    | [] => if d = 0 then [] else [d]
    | e :: q => d :: e :: q
theorem tz_cons (d : Int) (r : List Int) : tz (d :: r) = if tz r = [] then (if d = 0 then [] else [d]) else d :: tz r := by
  simp only [tz]
  cases h : tz r <;> simp
theorem tz_val : ∀ {l : List Int}, dig l = true → tz l = D (val l).toNat
  | [], _ => rfl
  | d :: r, h => by
    rw [dig_cons] at h
    have ih := tz_val h.2
    have h0 := val_nonneg h.2
    rw [tz_cons, ih]
    simp only [val]
    by_cases hz : val r = 0
    · rw [hz]
      rw [if_pos (show D (0 : Int).toNat = [] from rfl)]
      by_cases hd : d = 0
      · subst hd; rfl
      · rw [if_neg hd, show d + 10 * 0 = d by omega, D_pos (by omega), show d.toNat / 10 = 0 by omega, D_zero, show d.toNat % 10 = d.toNat by omega, show ((d.toNat : Nat) : Int) = d by omega]
    · have hp : 0 < (val r).toNat := by omega
      rw [if_neg (by rw [D_pos hp]; simp), D_pos (n := (d + 10 * val r).toNat) (by omega), show (((d + 10 * val r).toNat % 10 : Nat) : Int) = d by omega, show (d + 10 * val r).toNat / 10 = (val r).toNat by omega]
theorem tz_prefix : ∀ l : List Int, tz l = l.take (tz l).length
  | [] => rfl
  | d :: r => by
    have ih := tz_prefix r
    rw [tz_cons]
    split
    · split <;> simp
    · simp only [List.length_cons, List.take_succ_cons]
      rw [← ih]
theorem tz_le (l : List Int) : (tz l).length ≤ l.length := by
  have h := congrArg List.length (tz_prefix l)
  rw [List.length_take] at h; omega
theorem tz_D (n : Nat) : tz (D n) = D n := by rw [tz_val (dig_D n), val_D]; rfl
theorem tz_snoc_zero : ∀ l : List Int, tz (l ++ [0]) = tz l
  | [] => rfl
  | d :: r => by
    rw [List.cons_append, tz_cons, tz_cons, tz_snoc_zero r]
theorem tz_snoc_ne {d : Int} (hd : d ≠ 0) : ∀ l : List Int, tz (l ++ [d]) = l ++ [d]
  | [] => by simp [tz, hd]
  | e :: r => by
    rw [List.cons_append, tz_cons, tz_snoc_ne hd r, if_neg (by simp)]
/-- Canonical digits. -/
def isD (l : List Int) : Bool := decide (l = D (val l).toNat)
theorem isD_D (n : Nat) : isD (D n) = true := by unfold isD; rw [val_D]; simp
theorem isD_eq {l : List Int} (h : isD l = true) : ∃ n : Nat, l = D n := ⟨_, of_decide_eq_true h⟩
theorem D_len_pos {n : Nat} (h : 0 < n) : 0 < (D n).length := by rw [D_pos h]; simp
theorem D_inj {m n : Nat} (h : D m = D n) : m = n := by
  have := congrArg val h
  rw [val_D, val_D] at this; omega
/-- How long a number is. -/
theorem D_len_lt : ∀ {k n : Nat}, n < 10 ^ k → (D n).length ≤ k
  | 0, n, h => by
    obtain rfl : n = 0 := by simp at h; exact h
    simp [D_zero]
  | k + 1, n, h => by
    rcases Nat.eq_zero_or_pos n with rfl | hp
    · simp [D_zero]
    · rw [D_pos hp]
      have := D_len_lt (k := k) (n := n / 10) (by rw [Nat.pow_succ] at h; omega)
      simp only [List.length_cons]; omega
theorem D_len_ge : ∀ {k n : Nat}, 10 ^ k ≤ n → k < (D n).length
  | 0, n, h => D_len_pos (by simp at h; omega)
  | k + 1, n, h => by
    have hp : 0 < n := Nat.lt_of_lt_of_le (Nat.pow_pos (by decide)) h
    rw [D_pos hp]
    have := D_len_ge (k := k) (n := n / 10) (by rw [Nat.pow_succ] at h; omega)
    simp only [List.length_cons]; omega
end Go.Proofs.YtpalajfcffdhoaaGreat.N2

/- Chapter 2, the reference: trim. -/
namespace Go.Proofs.YtpalajfcffdhoaaGreat.N2
open Go Go.Eng
noncomputable def trLp : Code := loopOf 1 Tryz.f93
def trG (nn : Bool) : Tm := ⟨mkS [(0, .gs 0)] 0 21, [.rs nn 1 (.ints .i64)], []⟩
def trV (nn : Bool) : Tm := ⟨mkS [(0, .view 0 1)] 0 21, [.rs nn 1 (.ints .i64)], []⟩
def lastI (n : Nat) : Int := wr .i64 (Int.ofNat n - 1)
theorem tr_round0 (nn : Bool) (rd : Option Nat) (xs : List Int) : roundG Tryz.prog (orcP tabA plainL) noLoops 200 1 rd 93 trLp (trG nn) (trV nn) (trG nn) [.l xs] =
    bif decide (0 < Int.ofNat xs.length) then bif decide (0 ≤ lastI xs.length ∧ lastI xs.length < Int.ofNat xs.length) then oK xs[(lastI xs.length).toNat]? (fun v => bif decide (v = 0) then
      bif decide ((0 : Int) ≤ 0 ∧ 0 ≤ lastI xs.length ∧ lastI xs.length ≤ Int.ofNat xs.length) then some (.normal, [.n 0, .n ((lastI xs.length).toNat - 0), .l xs], []) else none else some (.exit 0, [.l xs], [])) else none else some (.exit 0, [.l xs], []) := by cases nn <;> kernel_rfl
theorem tr_round (nn : Bool) (rd : Option Nat) (m : Nat) (xs : List Int) : roundT Tryz.prog (orcP tabA plainL) noLoops 200 1 rd 93 trLp (trV nn) (trV nn) [.n 0, .n m, .l xs] =
    bif decide (0 < Int.ofNat m) then bif decide (0 ≤ lastI m ∧ lastI m < Int.ofNat m ∧ 0 + m ≤ xs.length) then oK xs[(lastI m).toNat]? (fun v => bif decide (v = 0) then bif decide (0 + m ≤ xs.length) then
      bif decide ((0 : Int) ≤ 0 ∧ 0 ≤ lastI m ∧ lastI m ≤ Int.ofNat m) then some (.normal, [.n 0, .n ((lastI m).toNat - 0), .l xs], []) else none else none else some (.exit 0, [.n 0, .n m, .l xs], [])) else none else some (.exit 0, [.n 0, .n m, .l xs], []) := by cases nn <;> kernel_rfl
end Go.Proofs.YtpalajfcffdhoaaGreat.N2
