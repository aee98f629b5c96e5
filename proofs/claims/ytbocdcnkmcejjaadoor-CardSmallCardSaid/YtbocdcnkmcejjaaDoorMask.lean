/- Chapter 4: Mask's contract: the set of the cards of a list. -/
import Derived.Test.YtbocdcnkmcejjaaDoorTxt
namespace Go.Proofs.YtbocdcnkmcejjaaDoor
open Go Go.Eng
noncomputable def mkLp : Code := loopOf 3 Tryd.f28
def mkT (nn : Bool) : Tm := ⟨mkS [(2, .int .u64), (3, .int .i64), (4, .int .u64), (7, .gs 0), (8, .int .i64), (9, .int .i64)] 0 27, [.rs nn 1 (.ints .u8)], []⟩
def mkX (nn : Bool) : Tm := ⟨mkS [(2, .int .u64), (3, .int .i64), (4, .int .u64)] 0 27, [.rs nn 1 (.ints .u8)], []⟩
theorem mk_round (nn : Bool) (rd : Option Nat) (z e m n i : Int) (xs : List Int) : roundT Tryd.prog (orcS tabI plainL) noLoops 100 1 rd 28 mkLp (mkT nn) (mkX nn) [.i z, .i e, .i m, .i n, .i i, .l xs] =
    bif decide (i < n) then bif decide (0 ≤ i ∧ i < Int.ofNat xs.length) then match xs[i.toNat]? with
      | some c => bif !decide (c < 52) then some (.ret, [.i 0, .i 41, .i m, .l xs], []) else bif decide (c < 0) then none else bif decide (bitI m c = 1) then some (.ret, [.i 0, .i 42, .i m, .l xs], []) else bif decide (c < 0) then none else
          some (.normal, [.i z, .i e, .i (bitsI .or .u64 m (wr .u64 (1 * 2 ^ shAmt .u64 c))), .i n, .i (wr .i64 (i + 1)), .l xs], [])
      | none => none
    else none else some (.exit 0, [.i z, .i e, .i m, .l xs], []) := by cases nn <;> kernel_rfl
/-- The set of a list: the error's number, and the set so far. -/
def mkN : List Int → Nat → Int × Nat
  | [], m => (0, m)
  | c :: r, m => if 51 < c then (41, m) else if m.testBit c.toNat then (42, m) else mkN r (m ||| 2 ^ c.toNat)
theorem mkN_lt : ∀ {l : List Int} {m : Nat}, m < 4503599627370496 → (∀ c ∈ l, 0 ≤ c) → (mkN l m).2 < 4503599627370496
  | [], m, hm, _ => hm
  | c :: r, m, hm, h => by
    have hc := h c (by simp)
    simp only [mkN]
    split
    · exact hm
    · split
      · exact hm
      · exact mkN_lt (Nat.or_lt_two_pow (n := 52) hm (Nat.pow_lt_pow_right (by decide) (by omega))) fun d hd => h d (by simp [hd])
theorem mkN_err : ∀ (l : List Int) (m : Nat), (mkN l m).1 = 0 ∨ (mkN l m).1 = 41 ∨ (mkN l m).1 = 42
  | [], m => .inl rfl
  | c :: r, m => by
    simp only [mkN]
    split
    · exact .inr (.inl rfl)
    · split
      · exact .inr (.inr rfl)
      · exact mkN_err r _
def mkZ (e : Int) : Bool := decide (e = 0)
theorem mk_loop (nn : Bool) (rd : Option Nat) (xs : List Int) (hx : ∀ c ∈ xs, 0 ≤ c) (hlen : xs.length ≤ 100000) : ∀ x : List Int × Nat, ((∃ q, xs = q ++ x.1) ∧ x.2 < 4503599627370496) →
    SimC Tryd.prog 1 rd (.loop mkLp) ((mkT nn).at [.i 0, .i 0, .i (x.2 : Int), .i (xs.length : Int), .i ((xs.length - x.1.length : Nat) : Int), .l xs]) (bif mkZ (mkN x.1 x.2).1 then .exit 0 else .ret)
      ((mkX nn).at [.i 0, .i (mkN x.1 x.2).1, .i ((mkN x.1 x.2).2 : Int), .l xs]) := by
  refine loop_of_rounds (C := orcS tabI plainL) (L := noLoops) (N := 100) (me := 28) (T := mkT nn) (T' := mkX nn) (orcS_ok tabI_ok plainL_ok) mixed noLoops_ok (by cases nn <;> kernel_rfl) (by cases nn <;> kernel_rfl) (X := List Int × Nat)
    (fun x => [.i 0, .i 0, .i (x.2 : Int), .i (xs.length : Int), .i ((xs.length - x.1.length : Nat) : Int), .l xs]) (fun x => (∃ q, xs = q ++ x.1) ∧ x.2 < 4503599627370496) (fun x => x.1.length)
    (fun x => ((bif mkZ (mkN x.1 x.2).1 then .exit 0 else .ret), [.i 0, .i (mkN x.1 x.2).1, .i ((mkN x.1 x.2).2 : Int), .l xs])) ?_
  rintro ⟨r, m⟩ ⟨⟨q, hq⟩, hm⟩
  dsimp only at hq hm ⊢
  have hl : xs.length = q.length + r.length := by rw [hq]; simp
  have h := mk_round nn rd 0 0 m xs.length ((xs.length - r.length : Nat) : Int) xs
  cases r with
  | nil =>
    rw [decide_eq_false (show ¬ ((xs.length - ([] : List Int).length : Nat) : Int) < (xs.length : Int) by simp)] at h
    exact ⟨_, _, _, h, codes0, .inr ⟨by simp, rfl⟩⟩
  | cons c r =>
    simp only [List.length_cons] at hl h ⊢
    have hc : xs[xs.length - (r.length + 1)]? = some c := by
      rw [show xs.length - (r.length + 1) = q.length by omega, hq, List.getElem?_append_right (Nat.le_refl _), Nat.sub_self]; rfl
    have hc0 : 0 ≤ c := hx c (by rw [hq]; simp)
    rw [decide_eq_true (show ((xs.length - (r.length + 1) : Nat) : Int) < (xs.length : Int) by omega), decide_eq_true (show 0 ≤ ((xs.length - (r.length + 1) : Nat) : Int) ∧ ((xs.length - (r.length + 1) : Nat) : Int) < Int.ofNat xs.length by simp; omega),
      show (((xs.length - (r.length + 1) : Nat) : Int)).toNat = xs.length - (r.length + 1) by omega, hc] at h
    simp only [cond_true] at h
    simp only [mkN]
    by_cases h1 : 51 < c
    · rw [decide_eq_false (show ¬ c < 52 by omega)] at h
      rw [if_pos h1]
      exact ⟨_, _, _, h, codes0, .inr ⟨by simp, rfl⟩⟩
    · obtain ⟨k, rfl⟩ : ∃ k : Nat, c = k := ⟨c.toNat, by omega⟩
      rw [decide_eq_true (show (k : Int) < 52 by omega), decide_eq_false (show ¬ (k : Int) < 0 by omega), bit_nat (by omega) (by omega)] at h
      rw [if_neg h1, show ((k : Int)).toNat = k by omega]
      cases hb : m.testBit k with
      | true =>
        rw [hb, if_pos rfl, decide_eq_true rfl] at h
        rw [if_pos rfl]
        exact ⟨_, _, _, h, codes0, .inr ⟨by simp, rfl⟩⟩
      | false =>
        obtain ⟨o1, o2⟩ := or_bit (m := m) (q := k) hm (by omega)
        rw [hb, if_neg (by simp), decide_eq_false (show ¬ (0 : Int) = 1 by decide), o1, wr64 (x := ((xs.length - (r.length + 1) : Nat) : Int) + 1) (by omega) (by omega),
          show ((xs.length - (r.length + 1) : Nat) : Int) + 1 = ((xs.length - r.length : Nat) : Int) by omega] at h
        rw [if_neg (by simp)]
        exact ⟨_, _, _, h, codes0, .inl ⟨rfl, (r, m ||| 2 ^ k), rfl, ⟨⟨q ++ [(k : Int)], by simp [hq]⟩, o2⟩, by simp, rfl⟩⟩
noncomputable def mkTree (nn : Bool) : List PV → Fin
  | [.i z, .i e, .i m, .i n, .i i, .l xs] => .br (pB (z = 0 ∧ e = 0 ∧ m = 0 ∧ n = Int.ofNat xs.length ∧ i = 0 ∧ (∀ c ∈ xs, 0 ≤ c) ∧ xs.length ≤ 100000))
      (.br (mkZ (mkN xs 0).1) (.leaf (.exit 0) ((mkX nn).at [.i 0, .i (mkN xs 0).1, .i ((mkN xs 0).2 : Nat), .l xs])) (.leaf .ret ((mkX nn).at [.i 0, .i (mkN xs 0).1, .i ((mkN xs 0).2 : Nat), .l xs]))) .no
  | _ => .no
noncomputable def mkSum (nn : Bool) : LoopSum := lsumF 1 (mkT nn) mkLp (mkTree nn)
theorem mkSum_ok (nn : Bool) : LoopOk Tryd.prog (mkSum nn) := by
  refine lsumF_ok (by cases nn <;> kernel_rfl) (fun rd ps e1 st1 h => ?_)
  unfold mkTree at h
  split at h
  · rename_i z e m n i xs
    simp only [Fin.pick] at h
    cases hc : pB (z = 0 ∧ e = 0 ∧ m = 0 ∧ n = Int.ofNat xs.length ∧ i = 0 ∧ (∀ c ∈ xs, 0 ≤ c) ∧ xs.length ≤ 100000) with
    | false => rw [hc] at h; cases h
    | true =>
      rw [hc, cond_true] at h
      rw [pB_iff] at hc
      obtain ⟨rfl, rfl, rfl, rfl, rfl, h1, h2⟩ := hc
      have main := mk_loop nn rd xs h1 h2 (xs, 0) ⟨⟨[], rfl⟩, by dsimp only; omega⟩
      dsimp only at main
      rw [Nat.sub_self] at main
      cases hz : mkZ (mkN xs 0).1 with
      | true => rw [hz] at h main; cases h; exact main
      | false => rw [hz] at h main; cases h; exact main
  · cases h
noncomputable def mkL (nn : Bool) : Loops := sums (fun n => match n with | 3 => some (mkSum nn) | _ => none)
theorem mkL_ok (nn : Bool) : loopsOk Tryd.prog (mkL nn) := by
  intro n g hg
  simp only [mkL, sums] at hg
  split at hg
  · cases hg; exact mkSum_ok nn
  · cases hg
end Go.Proofs.YtbocdcnkmcejjaaDoor
