/- Chapter 9: the reference: Last, passes, act, Seat. -/
import Derived.Test.YtnhilofmafjdpaaDoorTb6
namespace Go.Proofs.YtnhilofmafjdpaaDoor
open Go Go.Eng
theorem isBid_lt (c : Int) : isBid c = (decide (3 ≤ c) && decide (c < 38)) := by
  rw [Bool.eq_iff_iff]
  simp only [isBid, Bool.and_eq_true, decide_eq_true_eq]
  omega
theorem ra_loop (nn : Bool) (rd : Option Nat) (xs : List Int) (hl : xs.length ≤ 9223372036854775806) : ∀ n : Nat, n ≤ xs.length →
    SimC Tryd.prog 1 rd (.loop raLp) ((raT nn).at [.i 0, .b false, .i ((n : Int) - 1), .l xs]) (laFin xs n).1 ((raX nn).at (laFin xs n).2) := by
  refine loop_of_rounds (C := orcE emptyTab plainL) (L := noLoops) (N := 100) (me := 43) (T := raT nn) (T' := raX nn) (orcE_ok emptyTab_ok plainL_ok) mixed noLoops_ok (by cases nn <;> kernel_rfl) (by cases nn <;> kernel_rfl) (X := Nat)
    (fun n => [.i 0, .b false, .i ((n : Int) - 1), .l xs]) (fun n => n ≤ xs.length) (fun n => n) (fun n => laFin xs n) ?_
  intro n hn
  have h := ra_round nn rd 0 ((n : Int) - 1) false xs
  cases n with
  | zero =>
    rw [decide_eq_false (show ¬ (0 : Int) ≤ ((0 : Nat) : Int) - 1 by omega), cond_false] at h
    exact ⟨_, _, _, h, codes0, .inr ⟨by simp, rfl⟩⟩
  | succ n =>
    have hlt : n < xs.length := by omega
    rw [show ((n + 1 : Nat) : Int) - 1 = (n : Int) by omega, decide_eq_true (show (0 : Int) ≤ (n : Int) by omega), cond_true, atU_at hlt, atU_at hlt, wr64 (by omega) (by omega)] at h
    have hg : xs.getD n 0 = xs[n] := by rw [List.getD_eq_getElem?_getD, List.getElem?_eq_getElem hlt]; rfl
    simp only [laFin, hg]
    rw [isBid_lt]
    cases h3 : decide (3 ≤ xs[n]) with
    | false =>
      rw [h3, cond_false] at h
      refine ⟨_, _, _, by rw [show ((n + 1 : Nat) : Int) - 1 = (n : Int) by omega]; exact h, codes0, .inl ⟨rfl, n, rfl, by omega, by omega, rfl⟩⟩
    | true =>
      rw [h3, cond_true] at h
      cases h4 : decide (xs[n] < 38) with
      | true =>
        rw [h4, cond_true] at h
        refine ⟨_, _, _, by rw [show ((n + 1 : Nat) : Int) - 1 = (n : Int) by omega]; exact h, codes0, .inr ⟨by simp, rfl⟩⟩
      | false =>
        rw [h4, cond_false] at h
        refine ⟨_, _, _, by rw [show ((n + 1 : Nat) : Int) - 1 = (n : Int) by omega]; exact h, codes0, .inl ⟨rfl, n, rfl, by omega, by omega, rfl⟩⟩
noncomputable def raTree (LN : List Int → Nat → Int × Bool) (nn : Bool) : List PV → Fin
  | [.i z, .b b, .i i, .l xs] => .br (decide (z = 0 ∧ b = false ∧ i = Int.ofNat xs.length - 1 ∧ xs.length ≤ 9223372036854775806)) (.br (LN xs xs.length).2 (.leaf .ret ((raX nn).at [.i (LN xs xs.length).1, .b true, .l xs])) (.leaf (.exit 0) ((raX nn).at [.i (LN xs xs.length).1, .b false, .l xs]))) .no
  | _ => .no
noncomputable def raL (LN : List Int → Nat → Int × Bool) (nn : Bool) : Loops := sums (fun n => match n with | 2 => some (lsumF 1 (raT nn) raLp (raTree LN nn)) | _ => none)
theorem raL_ok (nn : Bool) : loopsOk Tryd.prog (raL lastN nn) := by
  intro n g hg
  simp only [raL, sums] at hg
  split at hg
  · cases hg
    refine lsumF_ok (by cases nn <;> kernel_rfl) (fun rd ps e1 st1 hq => ?_)
    unfold raTree at hq
    split at hq
    · rename_i z b i xs
      simp only [Fin.pick] at hq
      cases hc : decide (z = 0 ∧ b = false ∧ i = Int.ofNat xs.length - 1 ∧ xs.length ≤ 9223372036854775806) with
      | false => rw [hc] at hq; cases hq
      | true =>
        rw [hc, cond_true] at hq
        simp only [decide_eq_true_eq] at hc
        obtain ⟨rfl, rfl, rfl, h1⟩ := hc
        have := ra_loop nn rd xs h1 xs.length (Nat.le_refl _)
        rw [laFin_is] at this
        cases hr : (lastN xs xs.length).2 with
        | true => rw [hr] at hq this; cases hq; exact this
        | false => rw [hr] at hq this; cases hq; exact this
    · cases hq
  · cases hg
theorem rlast_eval (LN : List Int → Nat → Int × Bool) (nn : Bool) (xs : List Int) : evalFn Tryd.prog (orcE emptyTab plainL) (raL LN nn) 100 43 Tryd.f43 [.gs 0] [.rs nn 1 (.ints .u8 xs)] (fun v _ => some v) =
    cond (codesB [(raLp, raLp)]) (bif decide ((0 : Int) = 0 ∧ false = false ∧ wr .i64 (Int.ofNat xs.length - 1) = Int.ofNat xs.length - 1 ∧ xs.length ≤ 9223372036854775806) then bif (LN xs xs.length).2 then some (.tuple [.int .i64 (LN xs xs.length).1, .bool true]) else some (.tuple [.int .i64 0, .bool false]) else none) none := by cases nn <;> kernel_rfl
theorem len1 {xs : List Int} (h : xs.length ≤ 9223372036854775806) : wr .i64 (Int.ofNat xs.length - 1) = Int.ofNat xs.length - 1 := wr64 (by have : (0 : Int) ≤ Int.ofNat xs.length := Int.natCast_nonneg _; omega) (by have : Int.ofNat xs.length = (xs.length : Int) := rfl; omega)
theorem rlast_fn (nn : Bool) {xs : List Int} (h : smallL xs = true) : FnOK Tryd.prog 43 [.gs 0] [.rs nn 1 (.ints .u8 xs)] (lastV xs) [.rs nn 1 (.ints .u8 xs)] := by
  simp only [smallL, decide_eq_true_eq] at h
  have hev := rlast_eval lastN nn xs
  rw [lpCd, decide_eq_true (show (0 : Int) = 0 ∧ false = false ∧ wr .i64 (Int.ofNat xs.length - 1) = Int.ofNat xs.length - 1 ∧ xs.length ≤ 9223372036854775806 from ⟨rfl, rfl, len1 h, h⟩), cond_true, cond_true] at hev
  have hv : evalFn Tryd.prog (orcE emptyTab plainL) (raL lastN nn) 100 43 Tryd.f43 [.gs 0] [.rs nn 1 (.ints .u8 xs)] (fun v _ => some v) = some (lastV xs) := by
    rw [hev]; unfold lastV
    cases hb : (lastN xs xs.length).2 with
    | true => rfl
    | false => rw [last_no xs _ hb]; rfl
  obtain ⟨v1, h1, hk, hok⟩ := evalFn_ok (orcE_ok emptyTab_ok plainL_ok) mixed Tryd.func43 (raL_ok nn) hv
  cases hk
  exact hok.plain rfl rs_ro
/-! ### passes -/
def allZ : List Int → Bool
  | [] => true
  | x :: r => decide (x = 0) && allZ r
def paFin (b : Bool) (xs : List Int) (q : Bool) : XE × List PV := (if q = true then .exit 0 else .ret, [.b (if q = true then b else false), .l xs])
theorem pa_loop (nn : Bool) (rd : Option Nat) (b : Bool) (xs : List Int) (hl : xs.length ≤ 9223372036854775806) : ∀ i : Nat, i ≤ xs.length →
    SimC Tryd.prog 1 rd (.loop paLp) ((paT nn).at [.b b, .i (i : Int), .l xs]) (paFin b xs (allZ (xs.drop i))).1 ((paX nn).at (paFin b xs (allZ (xs.drop i))).2) := by
  refine loop_of_rounds (C := orcE emptyTab plainL) (L := noLoops) (N := 100) (me := 77) (T := paT nn) (T' := paX nn) (orcE_ok emptyTab_ok plainL_ok) mixed noLoops_ok (by cases nn <;> kernel_rfl) (by cases nn <;> kernel_rfl) (X := Nat)
    (fun i => [.b b, .i (i : Int), .l xs]) (fun i => i ≤ xs.length) (fun i => xs.length - i) (fun i => paFin b xs (allZ (xs.drop i))) ?_
  intro i hi
  have h := pa_round nn rd b (i : Int) xs
  rcases Nat.lt_or_ge i xs.length with hlt | hge
  · rw [decide_eq_true (show (i : Int) < Int.ofNat xs.length by show (i : Int) < (xs.length : Int); omega), cond_true, atU_at hlt, wr64 (by omega) (by omega)] at h
    rw [List.drop_eq_getElem_cons hlt]
    simp only [allZ]
    cases hb : decide (xs[i] = 0) with
    | true =>
      rw [hb] at h
      exact ⟨_, _, _, h, codes0, .inl ⟨rfl, i + 1, rfl, by omega, by omega, by rw [Bool.true_and]⟩⟩
    | false =>
      rw [hb] at h
      exact ⟨_, _, _, h, codes0, .inr ⟨by simp, rfl⟩⟩
  · rw [decide_eq_false (show ¬ (i : Int) < Int.ofNat xs.length from fun h => by have : (i : Int) < (xs.length : Int) := h; omega), cond_false] at h
    refine ⟨_, _, _, h, codes0, .inr ⟨by simp, ?_⟩⟩
    rw [List.drop_eq_nil_of_le (by omega)]; rfl
noncomputable def paTree (Z : List Int → Int → Bool) (nn : Bool) : List PV → Fin
  | [.b b, .i i, .l xs] => .br (decide (0 ≤ i ∧ i ≤ Int.ofNat xs.length ∧ xs.length ≤ 9223372036854775806)) (.br (Z xs i) (.leaf (.exit 0) ((paX nn).at [.b b, .l xs])) (.leaf .ret ((paX nn).at [.b false, .l xs]))) .no
  | _ => .no
def zFrom (xs : List Int) (i : Int) : Bool := allZ (xs.drop i.toNat)
noncomputable def paL (Z : List Int → Int → Bool) (nn : Bool) : Loops := sums (fun n => match n with | 4 => some (lsumF 1 (paT nn) paLp (paTree Z nn)) | _ => none)
theorem paL_ok (nn : Bool) : loopsOk Tryd.prog (paL zFrom nn) := by
  intro n g hg
  simp only [paL, sums] at hg
  split at hg
  · cases hg
    refine lsumF_ok (by cases nn <;> kernel_rfl) (fun rd ps e1 st1 hq => ?_)
    unfold paTree at hq
    split at hq
    · rename_i b i xs
      simp only [Fin.pick] at hq
      cases hc : decide (0 ≤ i ∧ i ≤ Int.ofNat xs.length ∧ xs.length ≤ 9223372036854775806) with
      | false => rw [hc] at hq; cases hq
      | true =>
        rw [hc, cond_true] at hq
        simp only [decide_eq_true_eq] at hc
        obtain ⟨h1, h2, h3⟩ := hc
        have h2 : i ≤ (xs.length : Int) := h2
        have h := pa_loop nn rd b xs h3 i.toNat (by omega)
        rw [show ((i.toNat : Nat) : Int) = i by omega] at h
        unfold paFin at h
        have e : zFrom xs i = allZ (xs.drop i.toNat) := rfl
        rw [e] at hq
        cases hb : allZ (xs.drop i.toNat) with
        | true => rw [hb] at hq h; cases hq; exact h
        | false => rw [hb] at hq h; cases hq; exact h
    · cases hq
  · cases hg
theorem passes_eval (Z : List Int → Int → Bool) (nn : Bool) (n : Int) (xs : List Int) : evalFn Tryd.prog (orcE emptyTab plainL) (paL Z nn) 100 77 Tryd.f77 [.gs 0, .int .i64 n] [.rs nn 1 (.ints .u8 xs)] (fun v _ => some v) =
    bif decide (Int.ofNat xs.length < n) then some (.bool false) else cond (codesB [(paLp, paLp)]) (bif decide (0 ≤ wr .i64 (Int.ofNat xs.length - n) ∧ wr .i64 (Int.ofNat xs.length - n) ≤ Int.ofNat xs.length ∧ xs.length ≤ 9223372036854775806) then bif Z xs (wr .i64 (Int.ofNat xs.length - n)) then some (.bool true) else some (.bool false) else none) none := by cases nn <;> kernel_rfl
def psV (xs : List Int) (n : Int) : Bool := bif decide (Int.ofNat xs.length < n) then false else zFrom xs (Int.ofNat xs.length - n)
def psK (xs : List Int) (n : Int) : Bool := smallL xs && decide (0 ≤ n)
theorem passes_fn (nn : Bool) {xs : List Int} {n : Int} (h : psK xs n = true) : FnOK Tryd.prog 77 [.gs 0, .int .i64 n] [.rs nn 1 (.ints .u8 xs)] (.bool (psV xs n)) [.rs nn 1 (.ints .u8 xs)] := by
  simp only [psK, smallL, Bool.and_eq_true, decide_eq_true_eq] at h
  have hev := passes_eval zFrom nn n xs
  have hof : Int.ofNat xs.length = (xs.length : Int) := rfl
  have hv : evalFn Tryd.prog (orcE emptyTab plainL) (paL zFrom nn) 100 77 Tryd.f77 [.gs 0, .int .i64 n] [.rs nn 1 (.ints .u8 xs)] (fun v _ => some v) = some (.bool (psV xs n)) := by
    rw [hev]; unfold psV
    by_cases hn : Int.ofNat xs.length < n
    · rw [decide_eq_true hn]; rfl
    · rw [decide_eq_false hn, lpCd, wr64 (n := Int.ofNat xs.length - n) (by omega) (by omega), decide_eq_true (show 0 ≤ Int.ofNat xs.length - n ∧ Int.ofNat xs.length - n ≤ Int.ofNat xs.length ∧ xs.length ≤ 9223372036854775806 by omega)]
      cases zFrom xs (Int.ofNat xs.length - n) <;> rfl
  obtain ⟨v1, h1, hk, hok⟩ := evalFn_ok (orcE_ok emptyTab_ok plainL_ok) mixed Tryd.func77 (paL_ok nn) hv
  cases hk
  exact hok.plain rfl rs_ro
/-! ### act -/
def actN (xs : List Int) : Nat → Int
  | 0 => -1
  | n + 1 => bif decide (xs.getD n 0 = 0) then actN xs n else (n : Int)
def acFin (z : Int) (xs : List Int) : Nat → XE × List PV
  | 0 => (.exit 0, [.i z, .l xs])
  | n + 1 => bif decide (xs.getD n 0 = 0) then acFin z xs n else (.ret, [.i (n : Int), .l xs])
theorem acFin_is (z : Int) (xs : List Int) : ∀ n, acFin z xs n = if actN xs n = -1 then (.exit 0, [.i z, .l xs]) else (.ret, [.i (actN xs n), .l xs])
  | 0 => rfl
  | n + 1 => by
    unfold acFin actN
    cases decide (xs.getD n 0 = 0) with
    | true => exact acFin_is z xs n
    | false => simp only [cond_false]; rw [if_neg (by omega)]
theorem ac_loop (nn : Bool) (rd : Option Nat) (z : Int) (xs : List Int) (hl : xs.length ≤ 9223372036854775806) : ∀ n : Nat, n ≤ xs.length →
    SimC Tryd.prog 1 rd (.loop acLp) ((acT nn).at [.i z, .i ((n : Int) - 1), .l xs]) (acFin z xs n).1 ((acX nn).at (acFin z xs n).2) := by
  refine loop_of_rounds (C := orcE emptyTab plainL) (L := noLoops) (N := 100) (me := 78) (T := acT nn) (T' := acX nn) (orcE_ok emptyTab_ok plainL_ok) mixed noLoops_ok (by cases nn <;> kernel_rfl) (by cases nn <;> kernel_rfl) (X := Nat)
    (fun n => [.i z, .i ((n : Int) - 1), .l xs]) (fun n => n ≤ xs.length) (fun n => n) (fun n => acFin z xs n) ?_
  intro n hn
  have h := ac_round nn rd z ((n : Int) - 1) xs
  cases n with
  | zero =>
    rw [decide_eq_false (show ¬ (0 : Int) ≤ ((0 : Nat) : Int) - 1 by omega), cond_false] at h
    exact ⟨_, _, _, h, codes0, .inr ⟨by simp, rfl⟩⟩
  | succ n =>
    have hlt : n < xs.length := by omega
    rw [show ((n + 1 : Nat) : Int) - 1 = (n : Int) by omega, decide_eq_true (show (0 : Int) ≤ (n : Int) by omega), cond_true, atU_at hlt, wr64 (by omega) (by omega)] at h
    have hg : xs.getD n 0 = xs[n] := by rw [List.getD_eq_getElem?_getD, List.getElem?_eq_getElem hlt]; rfl
    simp only [acFin, hg]
    cases hb : decide (xs[n] = 0) with
    | false =>
      rw [hb] at h
      refine ⟨_, _, _, by rw [show ((n + 1 : Nat) : Int) - 1 = (n : Int) by omega]; exact h, codes0, .inr ⟨by simp, rfl⟩⟩
    | true =>
      rw [hb] at h
      refine ⟨_, _, _, by rw [show ((n + 1 : Nat) : Int) - 1 = (n : Int) by omega]; exact h, codes0, .inl ⟨rfl, n, rfl, by omega, by omega, rfl⟩⟩
noncomputable def acTree (A : List Int → Int) (nn : Bool) : List PV → Fin
  | [.i z, .i i, .l xs] => .br (decide (i = Int.ofNat xs.length - 1 ∧ xs.length ≤ 9223372036854775806)) (.br (decide (A xs = -1)) (.leaf (.exit 0) ((acX nn).at [.i z, .l xs])) (.leaf .ret ((acX nn).at [.i (A xs), .l xs]))) .no
  | _ => .no
def actV (xs : List Int) : Int := actN xs xs.length
noncomputable def acL (A : List Int → Int) (nn : Bool) : Loops := sums (fun n => match n with | 2 => some (lsumF 1 (acT nn) acLp (acTree A nn)) | _ => none)
theorem acL_ok (nn : Bool) : loopsOk Tryd.prog (acL actV nn) := by
  intro n g hg
  simp only [acL, sums] at hg
  split at hg
  · cases hg
    refine lsumF_ok (by cases nn <;> kernel_rfl) (fun rd ps e1 st1 hq => ?_)
    unfold acTree at hq
    split at hq
    · rename_i z i xs
      simp only [Fin.pick] at hq
      cases hc : decide (i = Int.ofNat xs.length - 1 ∧ xs.length ≤ 9223372036854775806) with
      | false => rw [hc] at hq; cases hq
      | true =>
        rw [hc, cond_true] at hq
        simp only [decide_eq_true_eq] at hc
        obtain ⟨rfl, h1⟩ := hc
        have h := ac_loop nn rd z xs h1 xs.length (Nat.le_refl _)
        rw [acFin_is] at h
        rw [show actV xs = actN xs xs.length from rfl] at hq
        by_cases ha : actN xs xs.length = -1
        · rw [if_pos ha] at h; rw [decide_eq_true ha] at hq; cases hq; exact h
        · rw [if_neg ha] at h; rw [decide_eq_false ha] at hq; cases hq; exact h
    · cases hq
  · cases hg
theorem act_eval (A : List Int → Int) (nn : Bool) (xs : List Int) : evalFn Tryd.prog (orcE emptyTab plainL) (acL A nn) 100 78 Tryd.f78 [.gs 0] [.rs nn 1 (.ints .u8 xs)] (fun v _ => some v) =
    cond (codesB [(acLp, acLp)]) (bif decide (wr .i64 (Int.ofNat xs.length - 1) = Int.ofNat xs.length - 1 ∧ xs.length ≤ 9223372036854775806) then bif decide (A xs = -1) then some (.int .i64 (-1)) else some (.int .i64 (A xs)) else none) none := by cases nn <;> kernel_rfl
theorem act_fn (nn : Bool) {xs : List Int} (h : smallL xs = true) : FnOK Tryd.prog 78 [.gs 0] [.rs nn 1 (.ints .u8 xs)] (.int .i64 (actV xs)) [.rs nn 1 (.ints .u8 xs)] := by
  simp only [smallL, decide_eq_true_eq] at h
  have hv : evalFn Tryd.prog (orcE emptyTab plainL) (acL actV nn) 100 78 Tryd.f78 [.gs 0] [.rs nn 1 (.ints .u8 xs)] (fun v _ => some v) = some (.int .i64 (actV xs)) := by
    rw [act_eval, lpCd, decide_eq_true (show wr .i64 (Int.ofNat xs.length - 1) = Int.ofNat xs.length - 1 ∧ xs.length ≤ 9223372036854775806 from ⟨len1 h, h⟩)]
    by_cases ha : actV xs = -1
    · rw [decide_eq_true ha, ha]; rfl
    · rw [decide_eq_false ha]; rfl
  obtain ⟨v1, h1, hk, hok⟩ := evalFn_ok (orcE_ok emptyTab_ok plainL_ok) mixed Tryd.func78 (acL_ok nn) hv
  cases hk
  exact hok.plain rfl rs_ro
/-! ### Seat -/
theorem seat_eval (d i : Int) : evalP emptyTab 58 Tryd.f58 [.int .u8 d, .int .i64 i] = some (.int .u8 (wr .u8 ((wr .i64 (wr .i64 d + i)).tmod 4))) := by kernel_rfl
theorem seat_p {d i : Int} (h : 0 ≤ d ∧ d < 256) (hi : 0 ≤ i ∧ i ≤ 1000000) : FnPure Tryd.prog 58 [.int .u8 d, .int .i64 i] (.int .u8 ((d + i) % 4)) := by
  refine pure_at emptyTab_ok Tryd.func58 (by kernel_rfl) ?_ rfl rfl
  rw [seat_eval, wr64 (n := d) (by omega) (by omega), wr64 (by omega) (by omega), Int.tmod_eq_emod_of_nonneg (by omega), wr_u8_id (by omega)]
end Go.Proofs.YtnhilofmafjdpaaDoor
