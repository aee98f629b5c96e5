/- Texts merged: E6, E7, E8. -/
import Derived.Test.YtpalajfcffdhoaaGreatDoorE3
import Derived.Test.YtpalajfcffdhoaaGreatDoorEng4
/- Chapter 6, the reference: Turn. -/
namespace Go.Proofs.YtpalajfcffdhoaaGreatDoor
open Go Go.Eng Go.Deal
def rtL (k : Int) : Nat → Int → Int → Int → Int → Int → Option V
  | 0, _, _, _, _, _ => none
  | n + 1, i, a, b, c, d => bif decide (i < k) then rtL k n (i + 1) d a b c else some (q4 a b c d)
theorem rturn_eval (E : E7) (a b c d k : Int) : evalFn Tryz.prog (orcF E) noLoops 5 23 Tryz.f23 [q4 a b c d, .int .i64 k] [] (fun v _ => some v) = bif decide (k.tmod 4 < 0) then rtL (wr .i64 (k.tmod 4 + 4)) 5 0 a b c d else rtL (k.tmod 4) 5 0 a b c d := by kernel_rfl
theorem rtL_is {k r : Int} (a b c d : Int) (h : k % 4 = r % 4) (h0 : 0 ≤ r) (h1 : r < 4) : rtL r 5 0 a b c d = some (q4 (tu0 k a b c d) (tu1 k a b c d) (tu2 k a b c d) (tu3 k a b c d)) := by
  unfold tu0 tu1 tu2 tu3 tuC
  rw [h]
  have : r = 0 ∨ r = 1 ∨ r = 2 ∨ r = 3 := by omega
  rcases this with rfl | rfl | rfl | rfl <;> rfl
theorem rturn_p (a b c d k : Int) : FnPure Tryz.prog 23 [q4 a b c d, .int .i64 k] (q4 (tu0 k a b c d) (tu1 k a b c d) (tu2 k a b c d) (tu3 k a b c d)) := by
  refine fnPure_of_eval (N := 5) orcF_ok mixed Tryz.func23 (by kernel_rfl) noLoops_ok ?_ rfl rfl
  refine (rturn_eval e7 a b c d k).trans ?_
  have h1 : k.tmod 4 = if 0 ≤ k then k % 4 else -((-k) % 4) := by
    split
    · exact Int.tmod_eq_emod_of_nonneg (by assumption)
    · have : k = -(-k) := by omega
      rw [this, Int.neg_tmod, Int.tmod_eq_emod_of_nonneg (by omega)]; omega
  have h2 : -4 < k.tmod 4 ∧ k.tmod 4 < 4 := by rw [h1]; split <;> omega
  have h3 : (k.tmod 4) % 4 = k % 4 := by rw [h1]; split <;> omega
  by_cases hn : k.tmod 4 < 0
  · rw [decide_eq_true hn, cond_true, wr64 (by omega) (by omega)]
    exact rtL_is a b c d (by omega) (by omega) (by omega)
  · rw [decide_eq_false hn, cond_false]
    exact rtL_is a b c d (by omega) (by omega) (by omega)
end Go.Proofs.YtpalajfcffdhoaaGreatDoor

/- Chapter 6, the reference: choose: one round of each loop. -/
namespace Go.Proofs.YtpalajfcffdhoaaGreatDoor
open Go Go.Eng Go.Deal
noncomputable abbrev orc0C : Oracle := orcN n6 emptyTab plainL
noncomputable def ciLp : Code := loopOf 7 Tryz.f32
def iR : TR := .ints .i64
def ciT (r : TR) : Tm := ⟨mkS [(0, .int .i64), (1, .int .i64), (5, .gs 0), (6, .int .i64), (7, .gs 1), (8, .int .i64)] 0 45, [.grow true 3 1 iR, .grow true 3 1 r], []⟩
def ciX (_ : XE) : Tm := ⟨mkS [(0, .int .i64), (1, .int .i64), (6, .int .i64), (7, .gs 1)] 0 45, [.dead, .grow true 3 1 iR], []⟩
def ccT : TR := .vs [.int .i64]
def ciS (j : Int) (xs : List Int) (K : Int → RT) : RT :=
  bif decide (0 ≤ wr .i64 (j - 1) ∧ wr .i64 (j - 1) < Int.ofNat xs.length) then (match xs[(wr .i64 (j - 1)).toNat]? with
    | some v => bif decide (0 ≤ j ∧ j < Int.ofNat xs.length) then (match xs[j.toNat]? with | some w => K (wr .i64 (v + w)) | none => none) else none
    | none => none) else none
theorem ci_round (rd : Option Nat) (n k i j : Int) (xs ys : List Int) : roundX Tryz.prog orc0C noLoops 100 0 rd 32 ciLp (ciT iR) (ciT iR) ciX [.i n, .i k, .i i, .i j, .l xs, .l ys] =
    bif decide (j < Int.ofNat xs.length) then ciS j xs fun v => bif decide ((ys ++ [v]).length * 9 ≤ 70368744177664) then some (.normal, [.i n, .i k, .i i, .i (wr .i64 (j + 1)), .l xs, .l (ys ++ [v])], []) else none
    else some (.exit 2, [.i n, .i k, .i i, .l ys], []) := by kernel_rfl
theorem ci_first (rd : Option Nat) (n k i j y : Int) (xs : List Int) : roundX Tryz.prog orc0C noLoops 100 0 rd 32 ciLp (ciT ccT) (ciT iR) ciX [.i n, .i k, .i i, .i j, .l xs, .i y] =
    bif decide (j < Int.ofNat xs.length) then ciS j xs fun v => some (.normal, [.i n, .i k, .i i, .i (wr .i64 (j + 1)), .l xs, .l [y, v]], [])
    else some (.exit 2, [.i n, .i k, .i i, .l [y]], []) := by kernel_rfl
noncomputable def coLp : Code := loopOf 3 Tryz.f32
def coT (r : TR) : Tm := ⟨mkS [(0, .int .i64), (1, .int .i64), (5, .gs 0), (6, .int .i64)] 0 45, [.grow true 3 1 r], []⟩
def coX (_ : XE) : Tm := ⟨mkS [(0, .int .i64), (1, .int .i64), (5, .gs 0)] 0 45, [.grow true 3 1 iR], []⟩
theorem co_first (rd : Option Nat) (n k y : Int) : roundX Tryz.prog orc0C noLoops 100 0 rd 32 coLp (coT ccT) (coT iR) coX [.i n, .i k, .i 0, .i y] =
    bif decide (0 < n) then some (.normal, [.i n, .i k, .i 1, .l [1, 1]], []) else some (.exit 0, [.i n, .i k, .l [y]], []) := by kernel_rfl
section
variable (C : Int → Int → List Int → Int → Bool) (R : Int → List Int)
noncomputable def ciTr : List PV → Fin
  | [.i n, .i k, .i i, .i j, .l xs, .i y] => .br (C i j xs y) (.leaf (.exit 2) ((ciX (.exit 2)).at [.i n, .i k, .i i, .l (R i)])) .no
  | _ => .no
noncomputable def ciL : Loops := sums (fun n => match n with | 7 => some (lsumF 0 (ciT ccT) ciLp (ciTr C R)) | _ => none)
end
end Go.Proofs.YtpalajfcffdhoaaGreatDoor

/- Chapter 6, the reference: choose: its loops and its contract. -/
namespace Go.Proofs.YtpalajfcffdhoaaGreatDoor
open Go Go.Eng Go.Deal
def PR (i m : Nat) : List Int := (List.range m).map fun t => ((bc i t : Nat) : Int)
theorem PR_len (i m : Nat) : (PR i m).length = m := by unfold PR; rw [List.length_map, List.length_range]
theorem PR_get {i m t : Nat} (h : t < m) : (PR i m)[t]? = some ((bc i t : Nat) : Int) := by
  unfold PR; rw [List.getElem?_map, List.getElem?_range h]; rfl
theorem PR_s (i m : Nat) : PR i (m + 1) = PR i m ++ [((bc i m : Nat) : Int)] := by
  unfold PR; rw [List.range_succ, List.map_append]; rfl
theorem bc52 {n k : Nat} (h : n ≤ 52) : bc n k < 4503599627370497 := bc_52 h
theorem ciS_n {i j : Nat} (hi : i ≤ 51) (h1 : 1 ≤ j) (hj : j < i + 1) (K : Int → RT) : ciS (j : Int) (PR i (i + 1)) K = K ((bc (i + 1) j : Nat) : Int) := by
  obtain ⟨t, rfl⟩ : ∃ t, j = t + 1 := ⟨j - 1, by omega⟩
  unfold ciS
  have w : wr .i64 (((t + 1 : Nat) : Int) - 1) = (t : Int) := by rw [show ((t + 1 : Nat) : Int) - 1 = (t : Int) by omega]; exact wr64 (by omega) (by omega)
  have l : Int.ofNat (PR i (i + 1)).length = ((i + 1 : Nat) : Int) := by rw [PR_len]; rfl
  have b1 := bc52 (n := i) (k := t) (by omega)
  have b2 := bc52 (n := i) (k := t + 1) (by omega)
  rw [w, l, Int.toNat_natCast, Int.toNat_natCast, PR_get (by omega), PR_get (by omega), decide_eq_true (show 0 ≤ (t : Int) ∧ (t : Int) < ((i + 1 : Nat) : Int) by omega), decide_eq_true (show 0 ≤ ((t + 1 : Nat) : Int) ∧ ((t + 1 : Nat) : Int) < ((i + 1 : Nat) : Int) by omega), cond_true]
  simp only []
  rw [cond_true, ← Int.natCast_add, wr64 (by omega) (by omega), show bc i t + bc i (t + 1) = bc (i + 1) (t + 1) from rfl]
theorem ciX_ok (e : XE) : (ciX e).ok = true := by kernel_rfl
theorem coX_ok (e : XE) : (coX e).ok = true := by kernel_rfl
theorem orc0C_ok : OracleOk Tryz.prog orc0C := orcN_ok emptyTab_ok plainL_ok
theorem ci_loop (rd : Option Nat) (n k : Int) (i : Nat) (hi : i ≤ 51) : ∀ j : Nat, (1 ≤ j ∧ j ≤ i + 1) → ∃ q, SimL Tryz.prog 0 rd ciLp q ((ciT iR).at [.i n, .i k, .i (i : Int), .i (j : Int), .l (PR i (i + 1)), .l (PR (i + 1) j)]) (.exit 2) ((ciX (.exit 2)).at [.i n, .i k, .i (i : Int), .l (PR (i + 1) (i + 1))]) := by
  refine loop_of_roundsX_n (C := orc0C) (L := noLoops) (N := 100) (me := 32) (T := ciT iR) (T' := ciX) orc0C_ok mixed noLoops_ok (by kernel_rfl) ciX_ok (X := Nat)
    (fun j => [.i n, .i k, .i (i : Int), .i (j : Int), .l (PR i (i + 1)), .l (PR (i + 1) j)]) (fun j => 1 ≤ j ∧ j ≤ i + 1) (fun j => i + 1 - j) (fun _ => (.exit 2, [.i n, .i k, .i (i : Int), .l (PR (i + 1) (i + 1))])) ?_
  intro j hj
  have h := ci_round rd n k (i : Int) (j : Int) (PR i (i + 1)) (PR (i + 1) j)
  by_cases hlt : j < i + 1
  · rw [decide_eq_true (show (j : Int) < Int.ofNat (PR i (i + 1)).length by rw [PR_len]; show (j : Int) < ((i + 1 : Nat) : Int); omega), cond_true, ciS_n hi hj.1 hlt, ← PR_s, decide_eq_true (show (PR (i + 1) (j + 1)).length * 9 ≤ 70368744177664 by rw [PR_len]; omega), cond_true, wr64 (by omega) (by omega)] at h
    exact ⟨_, _, _, h, codesNil, .inl ⟨rfl, j + 1, rfl, by omega, by omega, rfl⟩⟩
  · have hje : j = i + 1 := by omega
    rw [decide_eq_false (show ¬ (j : Int) < Int.ofNat (PR i (i + 1)).length by rw [PR_len]; show ¬ (j : Int) < ((i + 1 : Nat) : Int); omega), cond_false] at h
    exact ⟨_, _, _, h, codesNil, .inr ⟨(fun h => by cases h), by rw [hje]⟩⟩
theorem ci_all (rd : Option Nat) (n k : Int) (i : Nat) (hi : i ≤ 51) : SimC Tryz.prog 0 rd (.loop ciLp) ((ciT ccT).at [.i n, .i k, .i (i : Int), .i 1, .l (PR i (i + 1)), .i 1]) (.exit 2) ((ciX (.exit 2)).at [.i n, .i k, .i (i : Int), .l (PR (i + 1) (i + 1))]) := by
  have h := ci_first rd n k (i : Int) ((1 : Nat) : Int) 1 (PR i (i + 1))
  by_cases hlt : 1 < i + 1
  · rw [decide_eq_true (show ((1 : Nat) : Int) < Int.ofNat (PR i (i + 1)).length by rw [PR_len]; show ((1 : Nat) : Int) < ((i + 1 : Nat) : Int); omega), cond_true, ciS_n hi (by omega) hlt, wr64 (by omega) (by omega)] at h
    have e2 : [(1 : Int), ((bc (i + 1) 1 : Nat) : Int)] = PR (i + 1) 2 := by
      unfold PR; simp [List.range_succ, bc_zero]
    rw [e2] at h
    obtain ⟨q, hq⟩ := ci_loop rd n k i hi 2 (by omega)
    exact loop_peelX orc0C_ok mixed noLoops_ok (by kernel_rfl) ciX_ok h codesNil hq
  · have hi0 : i = 0 := by omega
    subst hi0
    rw [decide_eq_false (show ¬ ((1 : Nat) : Int) < Int.ofNat (PR 0 (0 + 1)).length by rw [PR_len]; decide), cond_false] at h
    exact loop_leaveX orc0C_ok mixed noLoops_ok (by kernel_rfl) ciX_ok h codesNil (fun h => by cases h)
def ciC (i j : Int) (xs : List Int) (y : Int) : Bool := decide (0 ≤ i ∧ i ≤ 51 ∧ j = 1 ∧ y = 1 ∧ xs = PR i.toNat (i.toNat + 1))
def ciR (i : Int) : List Int := PR (i.toNat + 1) (i.toNat + 1)
theorem ciL_ok : loopsOk Tryz.prog (ciL ciC ciR) := by
  intro n g hg
  simp only [ciL, sums] at hg
  split at hg
  · cases hg
    refine lsumF_ok (by kernel_rfl) (fun rd ps e1 s1 h => ?_)
    unfold ciTr at h
    split at h
    · rename_i n k i j xs y
      simp only [Fin.pick] at h
      cases hc : ciC i j xs y with
      | false => rw [hc] at h; cases h
      | true =>
        rw [hc, cond_true] at h
        unfold ciC at hc
        rw [decide_eq_true_eq] at hc
        obtain ⟨h1, h2, rfl, rfl, rfl⟩ := hc
        obtain ⟨i, rfl⟩ : ∃ x : Nat, i = x := ⟨i.toNat, by omega⟩
        have hl := ci_all rd n k i (by omega)
        unfold ciR at h
        rw [Int.toNat_natCast] at h ⊢
        cases h
        exact hl
    · cases h
  · cases hg
theorem co_round (C : Int → Int → List Int → Int → Bool) (R : Int → List Int) (rd : Option Nat) (n k i : Int) (xs : List Int) : roundX Tryz.prog orc0C (ciL C R) 100 0 rd 32 coLp (coT iR) (coT iR) coX [.i n, .i k, .i i, .l xs] =
    bif decide (i < n) then bif codesB [(ciLp, ciLp)] then bif C i 1 xs 1 then bif decide ((R i ++ [1]).length * 9 ≤ 70368744177664) then some (.normal, [.i n, .i k, .i (wr .i64 (i + 1)), .l (R i ++ [1])], []) else none else none else none
    else some (.exit 0, [.i n, .i k, .l xs], []) := by kernel_rfl
theorem PR_full (i : Nat) : PR (i + 1) (i + 1) ++ [1] = PR (i + 1) (i + 2) := by
  rw [PR_s (i + 1) (i + 1), bc_self]; rfl
theorem co_loop (rd : Option Nat) (n : Nat) (k : Int) (hn : n ≤ 52) : ∀ i : Nat, i ≤ n → ∃ q, SimL Tryz.prog 0 rd coLp q ((coT iR).at [.i (n : Int), .i k, .i (i : Int), .l (PR i (i + 1))]) (.exit 0) ((coX (.exit 0)).at [.i (n : Int), .i k, .l (PR n (n + 1))]) := by
  refine loop_of_roundsX_n (C := orc0C) (L := ciL ciC ciR) (N := 100) (me := 32) (T := coT iR) (T' := coX) orc0C_ok mixed ciL_ok (by kernel_rfl) coX_ok (X := Nat)
    (fun i => [.i (n : Int), .i k, .i (i : Int), .l (PR i (i + 1))]) (fun i => i ≤ n) (fun i => n - i) (fun _ => (.exit 0, [.i (n : Int), .i k, .l (PR n (n + 1))])) ?_
  intro i hi
  have h := co_round ciC ciR rd (n : Int) k (i : Int) (PR i (i + 1))
  by_cases hlt : i < n
  · have hc : ciC (i : Int) 1 (PR i (i + 1)) 1 = true := by
      unfold ciC
      rw [decide_eq_true_eq, Int.toNat_natCast]
      exact ⟨by omega, by omega, rfl, rfl, rfl⟩
    have hr : ciR (i : Int) ++ [1] = PR (i + 1) (i + 2) := by unfold ciR; rw [Int.toNat_natCast, PR_full]
    rw [decide_eq_true (show (i : Int) < (n : Int) by omega), cond_true, codesD, cond_true, hc, cond_true, hr, decide_eq_true (show (PR (i + 1) (i + 2)).length * 9 ≤ 70368744177664 by rw [PR_len]; omega), cond_true, wr64 (by omega) (by omega)] at h
    exact ⟨_, _, _, h, codesNil, .inl ⟨rfl, i + 1, rfl, by omega, by omega, rfl⟩⟩
  · have hie : i = n := by omega
    rw [decide_eq_false (show ¬ (i : Int) < (n : Int) by omega), cond_false] at h
    exact ⟨_, _, _, h, codesNil, .inr ⟨(fun h => by cases h), by rw [hie]⟩⟩
theorem co_all (rd : Option Nat) (n : Nat) (k : Int) (hn : n ≤ 52) : SimC Tryz.prog 0 rd (.loop coLp) ((coT ccT).at [.i (n : Int), .i k, .i 0, .i 1]) (.exit 0) ((coX (.exit 0)).at [.i (n : Int), .i k, .l (PR n (n + 1))]) := by
  have h := co_first rd (n : Int) k 1
  by_cases hlt : 0 < n
  · rw [decide_eq_true (show (0 : Int) < (n : Int) by omega), cond_true] at h
    obtain ⟨q, hq⟩ := co_loop rd n k hn 1 (by omega)
    exact loop_peelX orc0C_ok mixed noLoops_ok (by kernel_rfl) coX_ok h codesNil hq
  · have hn0 : n = 0 := by omega
    subst hn0
    rw [decide_eq_false (show ¬ (0 : Int) < ((0 : Nat) : Int) by decide), cond_false] at h
    exact loop_leaveX orc0C_ok mixed noLoops_ok (by kernel_rfl) coX_ok h codesNil (fun h => by cases h)
section
variable (C : Int → Int → Int → Bool) (R : Int → List Int)
noncomputable def coTr : List PV → Fin
  | [.i n, .i k, .i i, .i y] => .br (C n i y) (.leaf (.exit 0) ((coX (.exit 0)).at [.i n, .i k, .l (R n)])) .no
  | _ => .no
noncomputable def coL : Loops := sums (fun n => match n with | 3 => some (lsumF 0 (coT ccT) coLp (coTr C R)) | _ => none)
theorem choose_eval (n k : Int) : evalFn Tryz.prog orc0C (coL C R) 100 32 Tryz.f32 [.int .i64 n, .int .i64 k] [] (fun v _ => some v) =
    bif codesB [(coLp, coLp)] then bif C n 0 1 then bif decide (n < k) then some (.int .i64 0) else bif decide (0 ≤ k ∧ k < Int.ofNat (R n).length) then (match (R n)[k.toNat]? with | some v => some (.int .i64 v) | none => none) else none else none else none := by kernel_rfl
end
def coC (n i y : Int) : Bool := decide (0 ≤ n ∧ n ≤ 52 ∧ i = 0 ∧ y = 1)
def coR (n : Int) : List Int := PR n.toNat (n.toNat + 1)
theorem coL_ok : loopsOk Tryz.prog (coL coC coR) := by
  intro n g hg
  simp only [coL, sums] at hg
  split at hg
  · cases hg
    refine lsumF_ok (by kernel_rfl) (fun rd ps e1 s1 h => ?_)
    unfold coTr at h
    split at h
    · rename_i n k i y
      simp only [Fin.pick] at h
      cases hc : coC n i y with
      | false => rw [hc] at h; cases h
      | true =>
        rw [hc, cond_true] at h
        unfold coC at hc
        rw [decide_eq_true_eq] at hc
        obtain ⟨h1, h2, rfl, rfl⟩ := hc
        obtain ⟨n, rfl⟩ : ∃ x : Nat, n = x := ⟨n.toNat, by omega⟩
        have hl := co_all rd n k (by omega)
        unfold coR at h
        rw [Int.toNat_natCast] at h
        cases h
        exact hl
    · cases h
  · cases hg
def bcI (n k : Int) : Int := ((bc n.toNat k.toNat : Nat) : Int)
def bcK (n k : Int) : Bool := decide (0 ≤ n ∧ n ≤ 52 ∧ 0 ≤ k)
theorem choose_p {n k : Int} (h : bcK n k = true) : FnPure Tryz.prog 32 [.int .i64 n, .int .i64 k] (.int .i64 (bcI n k)) := by
  unfold bcK at h
  rw [decide_eq_true_eq] at h
  obtain ⟨n, rfl⟩ : ∃ x : Nat, n = x := ⟨n.toNat, by omega⟩
  obtain ⟨k, rfl⟩ : ∃ x : Nat, k = x := ⟨k.toNat, by omega⟩
  refine fnPure_of_eval (N := 100) orc0C_ok mixed Tryz.func32 (by kernel_rfl) coL_ok ?_ rfl rfl
  refine (choose_eval coC coR _ _).trans ?_
  have hc : coC (n : Int) 0 1 = true := by unfold coC; rw [decide_eq_true_eq]; omega
  unfold bcI
  rw [codesD, cond_true, hc, cond_true, show coR (n : Int) = PR n (n + 1) by (unfold coR; rw [Int.toNat_natCast]), Int.toNat_natCast, Int.toNat_natCast]
  by_cases q : n < k
  · rw [decide_eq_true (show (n : Int) < (k : Int) by omega), cond_true, bc_big q]; rfl
  · rw [decide_eq_false (show ¬ (n : Int) < (k : Int) by omega), cond_false, PR_len, decide_eq_true (show 0 ≤ (k : Int) ∧ (k : Int) < Int.ofNat (n + 1) from ⟨by omega, by show (k : Int) < ((n + 1 : Nat) : Int); omega⟩), cond_true, PR_get (by omega)]
end Go.Proofs.YtpalajfcffdhoaaGreatDoor
