/- Chapter 2: the law NatMore: its loops' summaries (printed by LMore.py). -/
import Derived.Test.YthpdeiolhahobaaDoorLTells
namespace Go.Proofs.YthpdeiolhahobaaDoor
open Go Go.Eng
def eq4At (xs : List Int) (p : Nat) : Bool := decide (xs.getD p 0 = xs.getD p 0) && (decide (xs.getD (p + 1) 0 = xs.getD (p + 1) 0) && (decide (xs.getD (p + 1 + 1) 0 = xs.getD (p + 1 + 1) 0) && (decide (xs.getD (p + 1 + 1 + 1) 0 = xs.getD (p + 1 + 1 + 1) 0) && true)))
theorem eq4At_true (xs : List Int) (p : Nat) : eq4At xs p = true := by simp [eq4At]
def fourAt (xs : List Int) (p : Nat) : List Int := [xs.getD p 0, xs.getD (p + 1) 0, xs.getD (p + 1 + 1) 0, xs.getD (p + 1 + 1 + 1) 0]
theorem mo_round1 (nn : Bool) (N : NM) (rd : Option Nat) (xs os gs : List Int) (n k l i : Int) : roundT Tryd.prog (orcNM N) noLoops 200 1 rd 14 moLp1 (moT1 nn) (moX1 nn) [.i n, .i k, .i l, .i i, .l xs, .l os, .l gs] =
    bif decide (i < l) then bif decide (0 ≤ i ∧ i < ((xs.length / 4 : Nat) : Int)) then bif decide (i.toNat * 4 + 4 ≤ xs.length) then bif decide ((gs ++ fourAt xs (i.toNat * 4)).length / 4 * 17 ≤ 70368744177664) then
      some (.normal, [.i n, .i k, .i l, .i (wr .i64 (i + 1)), .l xs, .l os, .l (gs ++ fourAt xs (i.toNat * 4))], []) else none else none else none else some (.exit 0, [.i n, .i k, .l xs, .l os, .l gs], []) := by cases nn <;> kernel_rfl
theorem mo_round2 (nn : Bool) (N : NM) (rd : Option Nat) (xs : List Int) (l i a1 a2 a3 a4 a5 a6 b0 b1 b2 b3 b4 b5 b6 b7 b8 b9 b10 b11 b12 b13 b14 b15 b16 b17 b18 b19 b20 b21 b22 b23 : Int) : roundT Tryd.prog (orcNM N) noLoops 200 1 rd 14 moLp2 (moT2 nn) (moX2 nn) [.i a1, .i a2, .i a3, .i a4, .i a5, .i a6, .i l, .i i, .l xs, .l xs, .i b0, .i b1, .i b2, .i b3, .i b4, .i b5, .i b6, .i b7, .i b8, .i b9, .i b10, .i b11, .i b12, .i b13, .i b14, .i b15, .i b16, .i b17, .i b18, .i b19, .i b20, .i b21, .i b22, .i b23] =
    bif decide (i < l) then bif decide (0 ≤ i ∧ i < ((xs.length / 4 : Nat) : Int)) then bif decide (i.toNat * 4 + 4 ≤ xs.length) then bif decide (0 ≤ i ∧ i < ((xs.length / 4 : Nat) : Int)) then bif decide (i.toNat * 4 + 4 ≤ xs.length) then
      bif !eq4At xs (i.toNat * 4) then some (.ret, [.i a1, .i a2, .i a3, .i a4, .i a5, .i a6, .l xs, .l xs, .i b0, .i b1, .i b2, .i b3, .i b4, .i b5, .i b6, .i b7, .i b8, .i b9, .i b10, .i b11, .i b12, .i b13, .i b14, .i b15, .i b16, .i b17, .i b18, .i b19, .i b20, .i b21, .i b22, .i b23], []) else some (.normal, [.i a1, .i a2, .i a3, .i a4, .i a5, .i a6, .i l, .i (wr .i64 (i + 1)), .l xs, .l xs, .i b0, .i b1, .i b2, .i b3, .i b4, .i b5, .i b6, .i b7, .i b8, .i b9, .i b10, .i b11, .i b12, .i b13, .i b14, .i b15, .i b16, .i b17, .i b18, .i b19, .i b20, .i b21, .i b22, .i b23], []) else none else none else none else none
    else some (.exit 2, [.i a1, .i a2, .i a3, .i a4, .i a5, .i a6, .l xs, .l xs, .i b0, .i b1, .i b2, .i b3, .i b4, .i b5, .i b6, .i b7, .i b8, .i b9, .i b10, .i b11, .i b12, .i b13, .i b14, .i b15, .i b16, .i b17, .i b18, .i b19, .i b20, .i b21, .i b22, .i b23], []) := by cases nn <;> kernel_rfl
theorem take_four {xs : List Int} {i : Nat} {a b c d : Int} (q : AtQ xs i a b c d) : xs.take (i * 4) ++ fourAt xs (i * 4) = xs.take ((i + 1) * 4) := by
  have h : fourAt xs (i * 4) = [a, b, c, d] := by unfold fourAt; rw [q.g0, q.g1, q.g2, q.g3]
  rw [h, show (i + 1) * 4 = i * 4 + 4 by omega, List.take_add, q.dr]; rfl
theorem mo_loop1 (nn : Bool) (N : NM) (hC : OracleOk Tryd.prog (orcNM N)) (rd : Option Nat) (xs os : List Int) (n k : Int) (hl : xs.length ≤ 48) (h4 : xs.length % 4 = 0) : ∀ i : Nat, (i * 4 ≤ xs.length ∧ okL (xs.drop (i * 4)) = true) →
    SimC Tryd.prog 1 rd (.loop moLp1) ((moT1 nn).at [.i n, .i k, .i ((xs.length / 4 : Nat) : Int), .i (i : Int), .l xs, .l os, .l (xs.take (i * 4))]) (.exit 0) ((moX1 nn).at [.i n, .i k, .l xs, .l os, .l xs]) := by
  refine loop_of_rounds (C := orcNM N) (L := noLoops) (N := 200) (me := 14) (T := moT1 nn) (T' := moX1 nn) hC mixed noLoops_ok (by cases nn <;> kernel_rfl) (by cases nn <;> kernel_rfl) (X := Nat)
    (fun i => [.i n, .i k, .i ((xs.length / 4 : Nat) : Int), .i (i : Int), .l xs, .l os, .l (xs.take (i * 4))]) (fun i => i * 4 ≤ xs.length ∧ okL (xs.drop (i * 4)) = true) (fun i => xs.length - i) (fun _ => (.exit 0, [.i n, .i k, .l xs, .l os, .l xs])) ?_
  rintro i ⟨hi, ho⟩
  have h := mo_round1 nn N rd xs os (xs.take (i * 4)) n k ((xs.length / 4 : Nat) : Int) (i : Int)
  rw [show ((i : Int)).toNat = i from rfl] at h
  by_cases hlt : i * 4 < xs.length
  · obtain ⟨a, b, c, d, q⟩ := okL_at ho hlt
    have hle := q.le
    rw [take_four q, decide_eq_true (show (i : Int) < ((xs.length / 4 : Nat) : Int) by omega), decide_eq_true (show 0 ≤ (i : Int) ∧ (i : Int) < ((xs.length / 4 : Nat) : Int) by omega), decide_eq_true (show i * 4 + 4 ≤ xs.length by omega), wr64 (by omega) (by omega), decide_eq_true (show (xs.take ((i + 1) * 4)).length / 4 * 17 ≤ 70368744177664 by rw [List.length_take]; omega)] at h
    exact ⟨_, _, _, h, codes0, .inl ⟨rfl, i + 1, rfl, ⟨by omega, q.ok⟩, by omega, rfl⟩⟩
  · rw [decide_eq_false (show ¬ (i : Int) < ((xs.length / 4 : Nat) : Int) by omega), cond_false] at h
    have e : xs.take (i * 4) = xs := List.take_of_length_le (by omega)
    rw [e] at h ⊢
    exact ⟨_, _, _, h, codes0, .inr ⟨by simp, rfl⟩⟩
set_option maxRecDepth 100000 in
theorem mo_loop2 (nn : Bool) (N : NM) (hC : OracleOk Tryd.prog (orcNM N)) (rd : Option Nat) (xs : List Int) (a1 a2 a3 a4 a5 a6 b0 b1 b2 b3 b4 b5 b6 b7 b8 b9 b10 b11 b12 b13 b14 b15 b16 b17 b18 b19 b20 b21 b22 b23 : Int) (hl : xs.length ≤ 48) (h4 : xs.length % 4 = 0) : ∀ i : Nat, (i * 4 ≤ xs.length ∧ okL (xs.drop (i * 4)) = true) →
    SimC Tryd.prog 1 rd (.loop moLp2) ((moT2 nn).at [.i a1, .i a2, .i a3, .i a4, .i a5, .i a6, .i ((xs.length / 4 : Nat) : Int), .i (i : Int), .l xs, .l xs, .i b0, .i b1, .i b2, .i b3, .i b4, .i b5, .i b6, .i b7, .i b8, .i b9, .i b10, .i b11, .i b12, .i b13, .i b14, .i b15, .i b16, .i b17, .i b18, .i b19, .i b20, .i b21, .i b22, .i b23]) (.exit 2) ((moX2 nn).at [.i a1, .i a2, .i a3, .i a4, .i a5, .i a6, .l xs, .l xs, .i b0, .i b1, .i b2, .i b3, .i b4, .i b5, .i b6, .i b7, .i b8, .i b9, .i b10, .i b11, .i b12, .i b13, .i b14, .i b15, .i b16, .i b17, .i b18, .i b19, .i b20, .i b21, .i b22, .i b23]) := by
  refine loop_of_rounds (C := orcNM N) (L := noLoops) (N := 200) (me := 14) (T := moT2 nn) (T' := moX2 nn) hC mixed noLoops_ok (by cases nn <;> kernel_rfl) (by cases nn <;> kernel_rfl) (X := Nat)
    (fun i => [.i a1, .i a2, .i a3, .i a4, .i a5, .i a6, .i ((xs.length / 4 : Nat) : Int), .i (i : Int), .l xs, .l xs, .i b0, .i b1, .i b2, .i b3, .i b4, .i b5, .i b6, .i b7, .i b8, .i b9, .i b10, .i b11, .i b12, .i b13, .i b14, .i b15, .i b16, .i b17, .i b18, .i b19, .i b20, .i b21, .i b22, .i b23]) (fun i => i * 4 ≤ xs.length ∧ okL (xs.drop (i * 4)) = true) (fun i => xs.length - i) (fun _ => (.exit 2, [.i a1, .i a2, .i a3, .i a4, .i a5, .i a6, .l xs, .l xs, .i b0, .i b1, .i b2, .i b3, .i b4, .i b5, .i b6, .i b7, .i b8, .i b9, .i b10, .i b11, .i b12, .i b13, .i b14, .i b15, .i b16, .i b17, .i b18, .i b19, .i b20, .i b21, .i b22, .i b23])) ?_
  rintro i ⟨hi, ho⟩
  have h := mo_round2 nn N rd xs ((xs.length / 4 : Nat) : Int) (i : Int) a1 a2 a3 a4 a5 a6 b0 b1 b2 b3 b4 b5 b6 b7 b8 b9 b10 b11 b12 b13 b14 b15 b16 b17 b18 b19 b20 b21 b22 b23
  rw [show ((i : Int)).toNat = i from rfl, eq4At_true] at h
  by_cases hlt : i * 4 < xs.length
  · obtain ⟨a, b, c, d, q⟩ := okL_at ho hlt
    have hle := q.le
    rw [decide_eq_true (show (i : Int) < ((xs.length / 4 : Nat) : Int) by omega), decide_eq_true (show 0 ≤ (i : Int) ∧ (i : Int) < ((xs.length / 4 : Nat) : Int) by omega), decide_eq_true (show i * 4 + 4 ≤ xs.length by omega), wr64 (by omega) (by omega)] at h
    exact ⟨_, _, _, h, codes0, .inl ⟨rfl, i + 1, rfl, ⟨by omega, q.ok⟩, by omega, rfl⟩⟩
  · rw [decide_eq_false (show ¬ (i : Int) < ((xs.length / 4 : Nat) : Int) by omega), cond_false] at h
    exact ⟨_, _, _, h, codes0, .inr ⟨by simp, rfl⟩⟩
def moC (xs : List Int) (l i : Int) : Bool := decide (l = ((xs.length / 4 : Nat) : Int) ∧ i = 0 ∧ xs.length ≤ 48) && okL xs
noncomputable def moTree1 (nn : Bool) : List PV → Fin
  | [.i n, .i k, .i l, .i i, .l xs, .l os, .l gs] => .br (moC xs l i && decide (gs.length = 0)) (.leaf (.exit 0) ((moX1 nn).at [.i n, .i k, .l xs, .l os, .l xs])) .no
  | _ => .no
noncomputable def moTree2 (nn : Bool) : List PV → Fin
  | .i a1 :: .i a2 :: .i a3 :: .i a4 :: .i a5 :: .i a6 :: .i l :: .i i :: .l xs :: .l os :: r => match r with
    | [.i b0, .i b1, .i b2, .i b3, .i b4, .i b5, .i b6, .i b7, .i b8, .i b9, .i b10, .i b11, .i b12, .i b13, .i b14, .i b15, .i b16, .i b17, .i b18, .i b19, .i b20, .i b21, .i b22, .i b23] => .br (moC xs l i && pB (os = xs)) (.leaf (.exit 2) ((moX2 nn).at [.i a1, .i a2, .i a3, .i a4, .i a5, .i a6, .l xs, .l xs, .i b0, .i b1, .i b2, .i b3, .i b4, .i b5, .i b6, .i b7, .i b8, .i b9, .i b10, .i b11, .i b12, .i b13, .i b14, .i b15, .i b16, .i b17, .i b18, .i b19, .i b20, .i b21, .i b22, .i b23])) .no
    | _ => .no
  | _ => .no
noncomputable def moL (nn : Bool) : Loops := sums (fun n => match n with | 6 => some (lsumF 1 (moT1 nn) moLp1 (moTree1 nn)) | 17 => some (lsumF 1 (moT2 nn) moLp2 (moTree2 nn)) | _ => none)
theorem moL_ok (nn : Bool) (N : NM) (hC : OracleOk Tryd.prog (orcNM N)) : loopsOk Tryd.prog (moL nn) := by
  intro n g hg
  simp only [moL, sums] at hg
  split at hg
  · cases hg
    refine lsumF_ok (by cases nn <;> kernel_rfl) (fun rd ps e1 st1 hq => ?_)
    unfold moTree1 at hq
    split at hq
    · rename_i n k l i xs os gs
      simp only [Fin.pick] at hq
      cases hc : (moC xs l i && decide (gs.length = 0)) with
      | false => rw [hc] at hq; cases hq
      | true =>
        rw [hc, cond_true] at hq
        cases hq
        simp only [moC, Bool.and_eq_true, decide_eq_true_eq] at hc
        obtain ⟨⟨⟨rfl, rfl, h1⟩, h2⟩, h3⟩ := hc
        obtain rfl := List.eq_nil_of_length_eq_zero h3
        exact mo_loop1 nn N hC rd xs os n k h1 (okL_len h2) 0 ⟨by omega, h2⟩
    · cases hq
  · cases hg
    refine lsumF_ok (by cases nn <;> kernel_rfl) (fun rd ps e1 st1 hq => ?_)
    unfold moTree2 at hq
    split at hq
    · rename_i a1 a2 a3 a4 a5 a6 l i xs os r
      split at hq
      · rename_i b0 b1 b2 b3 b4 b5 b6 b7 b8 b9 b10 b11 b12 b13 b14 b15 b16 b17 b18 b19 b20 b21 b22 b23
        simp only [Fin.pick] at hq
        cases hc : (moC xs l i && pB (os = xs)) with
        | false => rw [hc] at hq; cases hq
        | true =>
          rw [hc, cond_true] at hq
          cases hq
          simp only [moC, Bool.and_eq_true, decide_eq_true_eq, pB_iff] at hc
          obtain ⟨⟨⟨rfl, rfl, h1⟩, h2⟩, rfl⟩ := hc
          exact mo_loop2 nn N hC rd _ a1 a2 a3 a4 a5 a6 b0 b1 b2 b3 b4 b5 b6 b7 b8 b9 b10 b11 b12 b13 b14 b15 b16 b17 b18 b19 b20 b21 b22 b23 h1 (okL_len h2) 0 ⟨by omega, h2⟩
      · cases hq
    · cases hq
  · cases hg
end Go.Proofs.YthpdeiolhahobaaDoor
