/- Texts merged: Lst, Lst2. -/
import Derived.Test.YtojlmpcbplepcaaCtr2
/- Chapter 9: Last, Legal: their loops. -/
namespace Go.Proofs.Ytojlmpcbplepcaa
open Go Go.Eng
def u8s : TR := .ints .u8
noncomputable def laLp : Code := loopOf 2 Try.f54
def laT (nn : Bool) : Tm := ⟨mkS [(0, .gs 0), (2, .int .i64), (3, .bool), (4, .int .i64)] 0 26, [.rs nn 1 u8s], []⟩
def laX (nn : Bool) : Tm := ⟨mkS [(2, .int .i64), (3, .bool)] 0 26, [.rs nn 1 u8s], []⟩
noncomputable def leLp : Code := loopOf 8 Try.f30
def leT (nn : Bool) : Tm := ⟨mkS [(6, .ptr 1 0), (9, .gs 2), (10, .int .u8)] 0 35, [.rs nn 1 u8s, .own 95 (.vs tvS), .grow false 5 1 u8s], []⟩
def leX (nn : Bool) : Tm := ⟨mkS [(9, .gs 2)] 0 35, [.rs nn 1 u8s, .dead, .grow false 5 1 u8s], []⟩
end Go.Proofs.Ytojlmpcbplepcaa

/- Chapter 9: Last, Legal: one round. -/
namespace Go.Proofs.Ytojlmpcbplepcaa
open Go Go.Eng
theorem la_round (CH : St → Int → Int) (OV : St → Bool) (nn : Bool) (rd : Option Nat) (z i : Int) (b : Bool) (xs : List Int) : roundT Try.prog (orcE (tabO CH OV) plainL) noLoops 100 1 rd 54 laLp (laT nn) (laX nn) [.i z, .b b, .i i, .l xs] =
    bif decide (0 ≤ i) then atU xs i (fun c => bif isBid c then some (.ret, [.i i, .b true, .l xs], []) else some (.normal, [.i z, .b b, .i (wr .i64 (i - 1)), .l xs], [])) else some (.exit 0, [.i z, .b b, .l xs], []) := by cases nn <;> kernel_rfl
theorem le_round (CH : St → Int → Int) (OV : St → Bool) (nn : Bool) (rd : Option Nat) (c : Int) (s : St) (xs ys : List Int) : roundT Try.prog (orcE (tabO CH OV) plainL) noLoops 100 1 rd 30 leLp (leT nn) (leX nn) (.i c :: .l xs :: s.pv [.l ys]) =
    bif decide (c ≤ 37) then bif decide (CH s c = 0) then bif decide ((ys ++ [c]).length * 2 ≤ 70368744177664) then some (.normal, .i (wr .u8 (c + 1)) :: .l xs :: s.pv [.l (ys ++ [c])], []) else none else some (.normal, .i (wr .u8 (c + 1)) :: .l xs :: s.pv [.l ys], []) else some (.exit 0, [.l xs, .l ys], []) := by cases nn <;> kernel_rfl
theorem atU_at {α : Type} {l : List Int} {i : Nat} (h : i < l.length) {K : Int → Option α} : atU l (i : Int) K = K l[i] := by
  unfold atU
  rw [decide_eq_true (show 0 ≤ (i : Int) ∧ (i : Int) < Int.ofNat l.length from ⟨by omega, by show (i : Int) < (l.length : Int); omega⟩), cond_true, show ((i : Int)).toNat = i from rfl, List.getElem?_eq_getElem h]
/-! ### Last -/
def lastN (xs : List Int) : Nat → Int × Bool
  | 0 => (0, false)
  | n + 1 => bif isBid (xs.getD n 0) then ((n : Int), true) else lastN xs n
def laFin (xs : List Int) : Nat → XE × List PV
  | 0 => (.exit 0, [.i 0, .b false, .l xs])
  | n + 1 => bif isBid (xs.getD n 0) then (.ret, [.i (n : Int), .b true, .l xs]) else laFin xs n
theorem laFin_is (xs : List Int) : ∀ n, laFin xs n = (if (lastN xs n).2 = true then .ret else .exit 0, [.i (lastN xs n).1, .b (lastN xs n).2, .l xs])
  | 0 => rfl
  | n + 1 => by
    unfold laFin lastN
    cases isBid (xs.getD n 0) with
    | true => rfl
    | false => exact laFin_is xs n
theorem la_loop (nn : Bool) (rd : Option Nat) (xs : List Int) (hl : xs.length ≤ 9223372036854775806) : ∀ n : Nat, n ≤ xs.length →
    SimC Try.prog 1 rd (.loop laLp) ((laT nn).at [.i 0, .b false, .i ((n : Int) - 1), .l xs]) (laFin xs n).1 ((laX nn).at (laFin xs n).2) := by
  refine loop_of_rounds (C := orcE (tabO chk ovr) plainL) (L := noLoops) (N := 100) (me := 54) (T := laT nn) (T' := laX nn) (orcE_ok tabO_ok plainL_ok) mixed noLoops_ok (by cases nn <;> kernel_rfl) (by cases nn <;> kernel_rfl) (X := Nat)
    (fun n => [.i 0, .b false, .i ((n : Int) - 1), .l xs]) (fun n => n ≤ xs.length) (fun n => n) (fun n => laFin xs n) ?_
  intro n hn
  have h := la_round chk ovr nn rd 0 ((n : Int) - 1) false xs
  cases n with
  | zero =>
    rw [decide_eq_false (show ¬ (0 : Int) ≤ ((0 : Nat) : Int) - 1 by omega), cond_false] at h
    exact ⟨_, _, _, h, codes0, .inr ⟨by simp, rfl⟩⟩
  | succ n =>
    have hlt : n < xs.length := by omega
    rw [show ((n + 1 : Nat) : Int) - 1 = (n : Int) by omega, decide_eq_true (show (0 : Int) ≤ (n : Int) by omega), cond_true, atU_at hlt, wr64 (by omega) (by omega)] at h
    have hg : xs.getD n 0 = xs[n] := by rw [List.getD_eq_getElem?_getD, List.getElem?_eq_getElem hlt]; rfl
    simp only [laFin, hg]
    cases hb : isBid xs[n] with
    | true =>
      rw [hb, cond_true] at h
      refine ⟨_, _, _, by rw [show ((n + 1 : Nat) : Int) - 1 = (n : Int) by omega]; exact h, codes0, .inr ⟨by simp, rfl⟩⟩
    | false =>
      rw [hb, cond_false] at h
      refine ⟨_, _, _, by rw [show ((n + 1 : Nat) : Int) - 1 = (n : Int) by omega]; exact h, codes0, .inl ⟨rfl, n, rfl, by omega, by omega, rfl⟩⟩
noncomputable def laTree (LN : List Int → Nat → Int × Bool) (nn : Bool) : List PV → Fin
  | [.i z, .b b, .i i, .l xs] => .br (decide (z = 0 ∧ b = false ∧ i = Int.ofNat xs.length - 1 ∧ xs.length ≤ 9223372036854775806)) (.br (LN xs xs.length).2 (.leaf .ret ((laX nn).at [.i (LN xs xs.length).1, .b true, .l xs])) (.leaf (.exit 0) ((laX nn).at [.i (LN xs xs.length).1, .b false, .l xs]))) .no
  | _ => .no
noncomputable def laL (LN : List Int → Nat → Int × Bool) (nn : Bool) : Loops := sums (fun n => match n with | 2 => some (lsumF 1 (laT nn) laLp (laTree LN nn)) | _ => none)
theorem laL_ok (nn : Bool) : loopsOk Try.prog (laL lastN nn) := by
  intro n g hg
  simp only [laL, sums] at hg
  split at hg
  · cases hg
    refine lsumF_ok (by cases nn <;> kernel_rfl) (fun rd ps e1 st1 hq => ?_)
    unfold laTree at hq
    split at hq
    · rename_i z b i xs
      simp only [Fin.pick] at hq
      cases hc : decide (z = 0 ∧ b = false ∧ i = Int.ofNat xs.length - 1 ∧ xs.length ≤ 9223372036854775806) with
      | false => rw [hc] at hq; cases hq
      | true =>
        rw [hc, cond_true] at hq
        simp only [decide_eq_true_eq] at hc
        obtain ⟨rfl, rfl, rfl, h1⟩ := hc
        have := la_loop nn rd xs h1 xs.length (Nat.le_refl _)
        rw [laFin_is] at this
        cases hr : (lastN xs xs.length).2 with
        | true => rw [hr] at hq this; cases hq; exact this
        | false => rw [hr] at hq this; cases hq; exact this
    · cases hq
  · cases hg
theorem last_eval (LN : List Int → Nat → Int × Bool) (nn : Bool) (xs : List Int) : evalFn Try.prog (orcE emptyTab plainL) (laL LN nn) 100 54 Try.f54 [.gs 0] [.rs nn 1 (.ints .u8 xs)] (fun v _ => some v) =
    cond (codesB [(laLp, laLp)]) (bif decide ((0 : Int) = 0 ∧ false = false ∧ wr .i64 (Int.ofNat xs.length - 1) = Int.ofNat xs.length - 1 ∧ xs.length ≤ 9223372036854775806) then bif (LN xs xs.length).2 then some (.tuple [.int .i64 (LN xs xs.length).1, .bool true]) else some (.tuple [.int .i64 0, .bool false]) else none) none := by cases nn <;> kernel_rfl
theorem last_no (xs : List Int) : ∀ n, (lastN xs n).2 = false → (lastN xs n).1 = 0
  | 0, _ => rfl
  | n + 1, h => by
    unfold lastN at h ⊢
    cases hb : isBid (xs.getD n 0) with
    | true => rw [hb] at h; cases h
    | false => rw [hb] at h; exact last_no xs n h
def lastV (xs : List Int) : V := .tuple [.int .i64 (lastN xs xs.length).1, .bool (lastN xs xs.length).2]
theorem laCd : codesB [(laLp, laLp)] = true := by rw [codesB_iff]; intro x hx; simp at hx; rw [hx]
theorem last_fn (nn : Bool) {xs : List Int} (h : smallL xs = true) : FnOK Try.prog 54 [.gs 0] [.rs nn 1 (.ints .u8 xs)] (lastV xs) [.rs nn 1 (.ints .u8 xs)] := by
  simp only [smallL, decide_eq_true_eq] at h
  have e : wr .i64 (Int.ofNat xs.length - 1) = Int.ofNat xs.length - 1 := wr64 (by have : (0 : Int) ≤ Int.ofNat xs.length := Int.natCast_nonneg _; omega) (by have : Int.ofNat xs.length = (xs.length : Int) := rfl; omega)
  have hev := last_eval lastN nn xs
  rw [laCd, decide_eq_true (show (0 : Int) = 0 ∧ false = false ∧ wr .i64 (Int.ofNat xs.length - 1) = Int.ofNat xs.length - 1 ∧ xs.length ≤ 9223372036854775806 from ⟨rfl, rfl, e, h⟩), cond_true, cond_true] at hev
  have hv : evalFn Try.prog (orcE emptyTab plainL) (laL lastN nn) 100 54 Try.f54 [.gs 0] [.rs nn 1 (.ints .u8 xs)] (fun v _ => some v) = some (lastV xs) := by
    rw [hev]; unfold lastV
    cases hb : (lastN xs xs.length).2 with
    | true => rfl
    | false => rw [last_no xs _ hb]; rfl
  obtain ⟨v1, h1, hk, hok⟩ := evalFn_ok (orcE_ok emptyTab_ok plainL_ok) mixed Try.func54 (laL_ok nn) hv
  cases hk
  exact hok.plain rfl rs_ro
end Go.Proofs.Ytojlmpcbplepcaa
