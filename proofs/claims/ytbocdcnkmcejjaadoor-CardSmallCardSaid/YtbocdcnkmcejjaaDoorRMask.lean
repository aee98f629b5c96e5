/- Chapter 4, the reference: Mask: its loops. -/
import Derived.Test.YtbocdcnkmcejjaaDoorRTop2
namespace Go.Proofs.YtbocdcnkmcejjaaDoor
open Go Go.Eng
noncomputable def rkLp2 : Code := loopOf 8 Tryd.f41
noncomputable def rkLp1 : Code := loopOf 3 Tryd.f41
def rkT2 (nn : Bool) : Tm := ⟨mkS [(0, .gs 0), (2, .int .u64), (3, .int .i64), (4, .int .u64), (5, .int .i64), (6, .int .i64)] 0 40, [.rs nn 1 u8R], []⟩
def rkT1 (nn : Bool) : Tm := ⟨mkS [(0, .gs 0), (2, .int .u64), (3, .int .i64), (4, .int .u64), (5, .int .i64)] 0 40, [.rs nn 1 u8R], []⟩
def atU {α : Type} (l : List Int) (i : Int) (K : Int → Option α) : Option α := bif decide (0 ≤ i ∧ i < Int.ofNat l.length) then (match l[i.toNat]? with | some v => K v | none => none) else none
theorem atU_at {α : Type} {l : List Int} {i : Nat} (h : i < l.length) (K : Int → Option α) : atU l (i : Int) K = K l[i] := by
  unfold atU
  rw [decide_eq_true (show 0 ≤ (i : Int) ∧ (i : Int) < Int.ofNat l.length from ⟨by omega, by show (i : Int) < (l.length : Int); omega⟩), cond_true, show ((i : Int)).toNat = i from rfl, List.getElem?_eq_getElem h]
theorem rk_round2 (nn : Bool) (N : NR) (rd : Option Nat) (z e m i k : Int) (xs : List Int) : roundT Tryd.prog (orcNR N) noLoops 100 1 rd 41 rkLp2 (rkT2 nn) (rkT1 nn) [.i z, .i e, .i m, .i i, .i k, .l xs] =
    bif decide (k < i) then atU xs k (fun x => atU xs i (fun y => bif decide (x = y) then some (.ret, [.i 0, .i 42, .i m, .i i, .l xs], []) else some (.normal, [.i z, .i e, .i m, .i i, .i (wr .i64 (k + 1)), .l xs], []))) else some (.exit 2, [.i z, .i e, .i m, .i i, .l xs], []) := by cases nn <;> kernel_rfl
def fnd (xs : List Int) (i k : Nat) : Bool := ((xs.take i).drop k).contains (xs.getD i 0)
theorem fnd_step {xs : List Int} {i k : Nat} (hi : i < xs.length) (hk : k < i) : fnd xs i k = (decide (xs[k]'(by omega) = xs[i]) || fnd xs i (k + 1)) := by
  unfold fnd
  have hl : k < (xs.take i).length := by rw [List.length_take]; omega
  rw [List.drop_eq_getElem_cons hl, List.contains_cons, List.getElem_take, List.getD_eq_getElem?_getD, List.getElem?_eq_getElem hi, Option.getD_some]
  congr 1
  rw [Bool.eq_iff_iff, beq_iff_eq, decide_eq_true_eq]
  exact eq_comm
theorem fnd_end {xs : List Int} {i : Nat} : fnd xs i i = false := by
  unfold fnd
  rw [List.drop_eq_nil_of_le (by rw [List.length_take]; omega)]; rfl
def rkF2 (z e m : Int) (i : Nat) (xs : List Int) (b : Bool) : XE × List PV := (if b = true then .ret else .exit 2, [.i (if b = true then 0 else z), .i (if b = true then 42 else e), .i m, .i (i : Int), .l xs])
theorem rk_loop2 (nn : Bool) (rd : Option Nat) (z e m : Int) (i : Nat) (xs : List Int) (hi : i < xs.length) (hl : xs.length ≤ 100000) : ∀ k : Nat, k ≤ i →
    SimC Tryd.prog 1 rd (.loop rkLp2) ((rkT2 nn).at [.i z, .i e, .i m, .i (i : Int), .i (k : Int), .l xs]) (rkF2 z e m i xs (fnd xs i k)).1 ((rkT1 nn).at (rkF2 z e m i xs (fnd xs i k)).2) := by
  refine loop_of_rounds (C := orcNR R0) (L := noLoops) (N := 100) (me := 41) (T := rkT2 nn) (T' := rkT1 nn) orcNR_ok mixed noLoops_ok (by cases nn <;> kernel_rfl) (by cases nn <;> kernel_rfl) (X := Nat)
    (fun k => [.i z, .i e, .i m, .i (i : Int), .i (k : Int), .l xs]) (fun k => k ≤ i) (fun k => i - k) (fun k => rkF2 z e m i xs (fnd xs i k)) ?_
  intro k hk
  have h := rk_round2 nn R0 rd z e m (i : Int) (k : Int) xs
  rcases Nat.lt_or_ge k i with hlt | hge
  · rw [decide_eq_true (show (k : Int) < (i : Int) by omega), cond_true, atU_at (show k < xs.length by omega), atU_at hi, wrI64 (by omega) (by omega)] at h
    rw [fnd_step hi hlt]
    by_cases hb : xs[k] = xs[i]
    · rw [decide_eq_true hb] at h ⊢
      exact ⟨_, _, _, h, codesE, .inr ⟨by simp, rfl⟩⟩
    · rw [decide_eq_false hb] at h ⊢
      exact ⟨_, _, _, h, codesE, .inl ⟨rfl, k + 1, rfl, by omega, by omega, by rw [Bool.false_or]⟩⟩
  · obtain rfl : k = i := by omega
    rw [decide_eq_false (show ¬ (k : Int) < (k : Int) by omega), cond_false] at h
    rw [fnd_end]
    exact ⟨_, _, _, h, codesE, .inr ⟨by simp, rfl⟩⟩
def rkC2 (i k : Int) (xs : List Int) : Bool := decide (k = 0 ∧ 0 ≤ i ∧ i < Int.ofNat xs.length ∧ xs.length ≤ 100000)
noncomputable def rkTree2 (nn : Bool) : List PV → Fin
  | [.i z, .i e, .i m, .i i, .i k, .l xs] => .br (rkC2 i k xs) (.br (fnd xs i.toNat 0) (.leaf .ret ((rkT1 nn).at [.i 0, .i 42, .i m, .i i, .l xs])) (.leaf (.exit 2) ((rkT1 nn).at [.i z, .i e, .i m, .i i, .l xs]))) .no
  | _ => .no
noncomputable def rkL2 (nn : Bool) : Loops := sums (fun n => match n with | 8 => some (lsumF 1 (rkT2 nn) rkLp2 (rkTree2 nn)) | _ => none)
theorem rkL2_ok (nn : Bool) : loopsOk Tryd.prog (rkL2 nn) := by
  intro n g hg
  simp only [rkL2, sums] at hg
  split at hg
  · cases hg
    refine lsumF_ok (by cases nn <;> kernel_rfl) (fun rd ps e1 st1 hq => ?_)
    unfold rkTree2 at hq
    split at hq
    · rename_i z e m i k xs
      simp only [Fin.pick] at hq
      cases hc : rkC2 i k xs with
      | false => rw [hc] at hq; cases hq
      | true =>
        rw [hc, cond_true] at hq
        unfold rkC2 at hc
        rw [decide_eq_true_eq] at hc
        obtain ⟨rfl, h1, h2, h3⟩ := hc
        have h2 : i < (xs.length : Int) := h2
        have := rk_loop2 nn rd z e m i.toNat xs (by omega) h3 0 (Nat.zero_le _)
        unfold rkF2 at this
        rw [show ((i.toNat : Nat) : Int) = i by omega] at this
        cases hb : fnd xs i.toNat 0 with
        | true => rw [hb] at hq this; cases hq; exact this
        | false => rw [hb] at hq this; cases hq; exact this
    · cases hq
  · cases hg
def rkX1 (nn : Bool) : Tm := ⟨mkS [(2, .int .u64), (3, .int .i64), (4, .int .u64)] 0 40, [.rs nn 1 u8R], []⟩
theorem rk_round1 (nn : Bool) (N : NR) (rd : Option Nat) (z e m i : Int) (xs : List Int) : roundT Tryd.prog (orcNR N) (rkL2 nn) 100 1 rd 41 rkLp1 (rkT1 nn) (rkX1 nn) [.i z, .i e, .i m, .i i, .l xs] =
    bif decide (i < Int.ofNat xs.length) then atU xs i (fun c => bif decide (51 < c) then some (.ret, [.i 0, .i 41, .i m, .l xs], []) else cond (codesB [(rkLp2, rkLp2)]) (bif rkC2 i 0 xs then bif fnd xs i.toNat 0 then some (.ret, [.i 0, .i 42, .i m, .l xs], []) else
      atU xs i (fun c => bif N.bitC c then some (.normal, [.i z, .i e, .i (wr .u64 (m + N.bit c)), .i (wr .i64 (i + 1)), .l xs], []) else none) else none) none) else some (.exit 0, [.i z, .i e, .i m, .l xs], []) := by cases nn <;> kernel_rfl
end Go.Proofs.YtbocdcnkmcejjaaDoor
