/- Chapter 4, the reference: List and Write: what their inner loops come to. -/
import Derived.Test.YtbocdcnkmcejjaaDoorRList
namespace Go.Proofs.YtbocdcnkmcejjaaDoor
open Go Go.Eng
def rIx (s r : Int) : Int := wr .i64 (wr .i64 (13 * s) + r)
theorem rl_round (N : NR) (rd : Option Nat) (m s r : Int) (out : List Int) : roundT Tryd.prog (orcNR N) noLoops 100 0 rd 26 rlLp rlT rlX [.i m, .i s, .i r, .l out] =
    bif decide (0 ≤ r) then bif N.hasC m (rIx s r) then bif N.has m (rIx s r) then bif decide ((out ++ [wr .u8 (rIx s r)]).length * 2 ≤ 70368744177664) then some (.normal, [.i m, .i s, .i (wr .i64 (r - 1)), .l (out ++ [wr .u8 (rIx s r)])], []) else none
      else some (.normal, [.i m, .i s, .i (wr .i64 (r - 1)), .l out], []) else none else some (.exit 2, [.i m, .i s, .l out], []) := by kernel_rfl
theorem rw_round (N : NR) (rd : Option Nat) (m s r : Int) (out : ByteArray) : roundT Tryd.prog (orcNR N) noLoops 100 0 rd 25 rwLp rwT rwX [.i m, .s out, .i s, .i r] =
    bif decide (0 ≤ r) then bif N.hasC m (rIx s r) then bif N.has m (rIx s r) then bif decide (lenS out + lenS (N.sg r) ≤ 9223372036854775807) then some (.normal, [.i m, .s (catS out (N.sg r)), .i s, .i (wr .i64 (r - 1))], []) else none
      else some (.normal, [.i m, .s out, .i s, .i (wr .i64 (r - 1))], []) else none else some (.exit 2, [.i m, .s out, .i s], []) := by kernel_rfl
/-- The cards of a suit below a rank, the highest first. -/
def dw (m s : Nat) : Nat → List Int
  | 0 => []
  | n + 1 => if m.testBit (13 * s + n) then ((13 * s + n : Nat) : Int) :: dw m s n else dw m s n
theorem dw_len (m s : Nat) : ∀ n, (dw m s n).length ≤ n
  | 0 => by simp [dw]
  | n + 1 => by
    have := dw_len m s n
    simp only [dw]
    split <;> simp <;> omega
theorem rIx_eq {s n : Nat} (hs : s ≤ 3) (hn : n ≤ 12) : rIx (s : Int) (n : Int) = ((13 * s + n : Nat) : Int) := by
  unfold rIx
  rw [wrI64 (x := 13 * (s : Int)) (by omega) (by omega), wrI64 (by omega) (by omega)]; omega
theorem has0 {m : Nat} (hm : m < 18446744073709551616) {c : Nat} (hc : c ≤ 1000) : R0.hasC (m : Int) (c : Int) = true ∧ R0.has (m : Int) (c : Int) = m.testBit c := by
  have e1 : R0.hasC = fun m c => decide ((0 ≤ m ∧ m < 18446744073709551616) ∧ 0 ≤ c ∧ c ≤ 1000) := rfl
  have e2 : R0.has = hasB := rfl
  rw [e1, e2]
  constructor
  · dsimp only
    rw [decide_eq_true_eq]; omega
  · unfold hasB
    rw [Int.toNat_natCast, Int.toNat_natCast]
theorem rl_loop (rd : Option Nat) (m s : Nat) (hm : m < 4503599627370496) (hs : s ≤ 3) : ∀ x : Nat × List Int, (x.1 ≤ 13 ∧ x.2.length ≤ 100 - x.1) →
    SimC Tryd.prog 0 rd (.loop rlLp) (rlT.at [.i (m : Int), .i (s : Int), .i ((x.1 : Int) - 1), .l x.2]) (.exit 2) (rlX.at [.i (m : Int), .i (s : Int), .l (x.2 ++ dw m s x.1)]) := by
  refine loop_of_rounds (C := orcNR R0) (L := noLoops) (N := 100) (me := 26) (T := rlT) (T' := rlX) orcNR_ok mixed noLoops_ok (by kernel_rfl) (by kernel_rfl) (X := Nat × List Int)
    (fun x => [.i (m : Int), .i (s : Int), .i ((x.1 : Int) - 1), .l x.2]) (fun x => x.1 ≤ 13 ∧ x.2.length ≤ 100 - x.1) (fun x => x.1) (fun x => (.exit 2, [.i (m : Int), .i (s : Int), .l (x.2 ++ dw m s x.1)])) ?_
  rintro ⟨n, out⟩ ⟨hn, ho⟩
  dsimp only at hn ho ⊢
  have h := rl_round R0 rd (m : Int) (s : Int) ((n : Int) - 1) out
  cases n with
  | zero => exact ⟨_, _, _, h, codesE, .inr ⟨by simp, by simp [dw]⟩⟩
  | succ n =>
    obtain ⟨h1, h2⟩ := has0 (m := m) (by omega) (c := 13 * s + n) (by omega)
    rw [show (((n + 1 : Nat) : Int) - 1) = (n : Int) by omega] at h ⊢
    rw [rIx_eq hs (by omega), h1, h2, decide_eq_true (show 0 ≤ (n : Int) by omega), wrI64 (by omega) (by omega)] at h
    have hw : wr .u8 ((13 * s + n : Nat) : Int) = ((13 * s + n : Nat) : Int) := by
      show ((13 * s + n : Nat) : Int) % 256 = _
      omega
    cases hb : m.testBit (13 * s + n) with
    | true =>
      rw [hb, hw, decide_eq_true (show (out ++ [((13 * s + n : Nat) : Int)]).length * 2 ≤ 70368744177664 by rw [List.length_append, List.length_singleton]; omega)] at h
      refine ⟨_, _, _, h, codesE, .inl ⟨rfl, (n, out ++ [((13 * s + n : Nat) : Int)]), rfl, ⟨by dsimp only; omega, by dsimp only; rw [List.length_append, List.length_singleton]; omega⟩, by dsimp only; omega, ?_⟩⟩
      simp only [dw]
      rw [hb, if_pos rfl, List.append_assoc]; rfl
    | false =>
      rw [hb] at h
      refine ⟨_, _, _, h, codesE, .inl ⟨rfl, (n, out), rfl, ⟨by dsimp only; omega, by dsimp only; omega⟩, by dsimp only; omega, ?_⟩⟩
      simp only [dw]
      rw [hb, if_neg (by simp)]
theorem sg_eq : ∀ {n : Nat}, n ≤ 12 → sgB (n : Int) = bA [rU.getD n 0]
  | 0, _ => rfl
  | 1, _ => rfl
  | 2, _ => rfl
  | 3, _ => rfl
  | 4, _ => rfl
  | 5, _ => rfl
  | 6, _ => rfl
  | 7, _ => rfl
  | 8, _ => rfl
  | 9, _ => rfl
  | 10, _ => rfl
  | 11, _ => rfl
  | 12, _ => rfl
  | n + 13, h => by omega
theorem rw_loop (rd : Option Nat) (m s : Nat) (hm : m < 4503599627370496) (hs : s ≤ 3) : ∀ x : Nat × List UInt8, (x.1 ≤ 13 ∧ x.2.length ≤ 1000 - x.1) →
    SimC Tryd.prog 0 rd (.loop rwLp) (rwT.at [.i (m : Int), .s (bA x.2), .i (s : Int), .i ((x.1 : Int) - 1)]) (.exit 2) (rwX.at [.i (m : Int), .s (bA (x.2 ++ suf m s x.1)), .i (s : Int)]) := by
  refine loop_of_rounds (C := orcNR R0) (L := noLoops) (N := 100) (me := 25) (T := rwT) (T' := rwX) orcNR_ok mixed noLoops_ok (by kernel_rfl) (by kernel_rfl) (X := Nat × List UInt8)
    (fun x => [.i (m : Int), .s (bA x.2), .i (s : Int), .i ((x.1 : Int) - 1)]) (fun x => x.1 ≤ 13 ∧ x.2.length ≤ 1000 - x.1) (fun x => x.1) (fun x => (.exit 2, [.i (m : Int), .s (bA (x.2 ++ suf m s x.1)), .i (s : Int)])) ?_
  rintro ⟨n, out⟩ ⟨hn, ho⟩
  dsimp only at hn ho ⊢
  have h := rw_round R0 rd (m : Int) (s : Int) ((n : Int) - 1) (bA out)
  cases n with
  | zero => exact ⟨_, _, _, h, codesE, .inr ⟨by simp, by simp [suf]⟩⟩
  | succ n =>
    obtain ⟨h1, h2⟩ := has0 (m := m) (by omega) (c := 13 * s + n) (by omega)
    rw [show (((n + 1 : Nat) : Int) - 1) = (n : Int) by omega] at h ⊢
    rw [rIx_eq hs (by omega), h1, h2, decide_eq_true (show 0 ≤ (n : Int) by omega), wrI64 (by omega) (by omega), show R0.sg = sgB from rfl, sg_eq (by omega)] at h
    cases hb : m.testBit (13 * s + n) with
    | true =>
      rw [hb, decide_eq_true (show lenS (bA out) + lenS (bA [rU.getD n 0]) ≤ 9223372036854775807 by show out.length + 1 ≤ _; omega)] at h
      refine ⟨_, _, _, h, codesE, .inl ⟨rfl, (n, out ++ [rU.getD n 0]), rfl, ⟨by dsimp only; omega, by dsimp only; rw [List.length_append, List.length_singleton]; omega⟩, by dsimp only; omega, ?_⟩⟩
      simp only [suf]
      rw [hb, if_pos rfl, List.append_assoc]; rfl
    | false =>
      rw [hb] at h
      refine ⟨_, _, _, h, codesE, .inl ⟨rfl, (n, out), rfl, ⟨by dsimp only; omega, by dsimp only; omega⟩, by dsimp only; omega, ?_⟩⟩
      simp only [suf]
      rw [hb, if_neg (by simp)]
def rlC (m s r : Int) (n : Nat) : Bool := decide (0 ≤ m ∧ m < 4503599627370496 ∧ 0 ≤ s ∧ s ≤ 3 ∧ r = 12 ∧ n ≤ 60)
noncomputable def rlTree : List PV → Fin
  | [.i m, .i s, .i r, .l out] => .br (rlC m s r out.length) (.leaf (.exit 2) (rlX.at [.i m, .i s, .l (out ++ dw m.toNat s.toNat 13)])) .no
  | _ => .no
noncomputable def rlL : Loops := sums (fun n => match n with | 8 => some (lsumF 0 rlT rlLp rlTree) | _ => none)
theorem rlL_ok : loopsOk Tryd.prog rlL := by
  intro n g hg
  simp only [rlL, sums] at hg
  split at hg
  · cases hg
    refine lsumF_ok (by kernel_rfl) (fun rd ps e1 st1 hq => ?_)
    unfold rlTree at hq
    split at hq
    · rename_i m s r out
      simp only [Fin.pick] at hq
      cases hc : rlC m s r out.length with
      | false => rw [hc] at hq; cases hq
      | true =>
        rw [hc, cond_true] at hq
        cases hq
        unfold rlC at hc
        rw [decide_eq_true_eq] at hc
        obtain ⟨h1, h2, h3, h4, rfl, h5⟩ := hc
        have := rl_loop rd m.toNat s.toNat (by omega) (by omega) (13, out) ⟨Nat.le_refl _, by dsimp only; omega⟩
        dsimp only at this
        rw [show ((m.toNat : Nat) : Int) = m by omega, show ((s.toNat : Nat) : Int) = s by omega] at this
        exact this
    · cases hq
  · cases hg
def bytesL (s : ByteArray) : List UInt8 := s.data.toList
noncomputable def rwTree : List PV → Fin
  | [.i m, .s out, .i s, .i r] => .br (rlC m s r (lenS out)) (.leaf (.exit 2) (rwX.at [.i m, .s (bA (bytesL out ++ suf m.toNat s.toNat 13)), .i s])) .no
  | _ => .no
noncomputable def rwL : Loops := sums (fun n => match n with | 8 => some (lsumF 0 rwT rwLp rwTree) | _ => none)
theorem rwL_ok : loopsOk Tryd.prog rwL := by
  intro n g hg
  simp only [rwL, sums] at hg
  split at hg
  · cases hg
    refine lsumF_ok (by kernel_rfl) (fun rd ps e1 st1 hq => ?_)
    unfold rwTree at hq
    split at hq
    · rename_i m out s r
      simp only [Fin.pick] at hq
      cases hc : rlC m s r (lenS out) with
      | false => rw [hc] at hq; cases hq
      | true =>
        rw [hc, cond_true] at hq
        cases hq
        unfold rlC at hc
        rw [decide_eq_true_eq] at hc
        obtain ⟨h1, h2, h3, h4, rfl, h5⟩ := hc
        have := rw_loop rd m.toNat s.toNat (by omega) (by omega) (13, bytesL out) ⟨Nat.le_refl _, by dsimp only; have : (bytesL out).length ≤ 60 := h5; omega⟩
        dsimp only at this
        rw [show ((m.toNat : Nat) : Int) = m by omega, show ((s.toNat : Nat) : Int) = s by omega] at this
        exact this
    · cases hq
  · cases hg
end Go.Proofs.YtbocdcnkmcejjaaDoor
