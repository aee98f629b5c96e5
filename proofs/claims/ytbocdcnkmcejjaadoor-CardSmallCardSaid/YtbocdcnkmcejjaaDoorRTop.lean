/- Chapter 4, the reference: Top and Low. -/
import Derived.Test.YtbocdcnkmcejjaaDoorRList3
import Derived.Test.YtbocdcnkmcejjaaDoorLowC
namespace Go.Proofs.YtbocdcnkmcejjaaDoor
open Go Go.Eng
noncomputable def rtLp : Code := loopOf 4 Tryd.f44
noncomputable def roLp : Code := loopOf 4 Tryd.f45
def rtT : Tm := ⟨mkS [(0, .int .u64), (1, .int .u8), (4, .int .u8), (5, .bool), (6, .int .i64)] 0 30, [], []⟩
def rtX : Tm := ⟨mkS [(4, .int .u8), (5, .bool)] 0 30, [], []⟩
def rtV (s r : Int) : Int := wr .u8 (wr .u8 (13 * s) + wr .u8 r)
theorem rt_round (N : NR) (rd : Option Nat) (m s z r : Int) (b : Bool) : roundT Tryd.prog (orcNR N) noLoops 100 0 rd 44 rtLp rtT rtX [.i m, .i s, .i z, .b b, .i r] =
    bif decide (0 ≤ r) then bif N.hasC m (rIx (wr .i64 s) r) then bif N.has m (rIx (wr .i64 s) r) then some (.ret, [.i (rtV s r), .b true], []) else some (.normal, [.i m, .i s, .i z, .b b, .i (wr .i64 (r - 1))], []) else none else some (.exit 0, [.i z, .b b], []) := by kernel_rfl
theorem ro_round (N : NR) (rd : Option Nat) (m s z r : Int) (b : Bool) : roundT Tryd.prog (orcNR N) noLoops 100 0 rd 45 roLp rtT rtX [.i m, .i s, .i z, .b b, .i r] =
    bif decide (r < 13) then bif N.hasC m (rIx (wr .i64 s) r) then bif N.has m (rIx (wr .i64 s) r) then some (.ret, [.i (rtV s r), .b true], []) else some (.normal, [.i m, .i s, .i z, .b b, .i (wr .i64 (r + 1))], []) else none else some (.exit 0, [.i z, .b b], []) := by kernel_rfl
theorem rtV_eq {s n : Nat} (hs : s ≤ 3) (hn : n ≤ 12) : rtV (s : Int) (n : Int) = ((13 * s + n : Nat) : Int) := by
  unfold rtV
  show (((13 * (s : Int)) % 256) + ((n : Int) % 256)) % 256 = _
  omega
/-- The highest card of a suit below a rank; the lowest one from a rank on. -/
def tpR (m s : Nat) : Nat → Option Nat
  | 0 => none
  | n + 1 => if m.testBit (13 * s + n) then some (13 * s + n) else tpR m s n
def loR (m s : Nat) : Nat → Nat → Option Nat
  | _, 0 => none
  | n, k + 1 => if m.testBit (13 * s + n) then some (13 * s + n) else loR m s (n + 1) k
def tpFin (z : Int) (b : Bool) : Option Nat → XE × List PV
  | none => (.exit 0, [.i z, .b b])
  | some t => (.ret, [.i (t : Int), .b true])
theorem rt_loop (rd : Option Nat) (m s : Nat) (z : Int) (b : Bool) (hm : m < 4503599627370496) (hs : s ≤ 3) : ∀ n : Nat, n ≤ 13 →
    SimC Tryd.prog 0 rd (.loop rtLp) (rtT.at [.i (m : Int), .i (s : Int), .i z, .b b, .i ((n : Int) - 1)]) (tpFin z b (tpR m s n)).1 (rtX.at (tpFin z b (tpR m s n)).2) := by
  refine loop_of_rounds (C := orcNR R0) (L := noLoops) (N := 100) (me := 44) (T := rtT) (T' := rtX) orcNR_ok mixed noLoops_ok (by kernel_rfl) (by kernel_rfl) (X := Nat)
    (fun n => [.i (m : Int), .i (s : Int), .i z, .b b, .i ((n : Int) - 1)]) (fun n => n ≤ 13) (fun n => n) (fun n => tpFin z b (tpR m s n)) ?_
  intro n hn
  have h := rt_round R0 rd (m : Int) (s : Int) z ((n : Int) - 1) b
  cases n with
  | zero => exact ⟨_, _, _, h, codesE, .inr ⟨by simp, rfl⟩⟩
  | succ n =>
    obtain ⟨h1, h2⟩ := has0 (m := m) (by omega) (c := 13 * s + n) (by omega)
    rw [show (((n + 1 : Nat) : Int) - 1) = (n : Int) by omega] at h ⊢
    rw [wrI64 (x := (s : Int)) (by omega) (by omega), rIx_eq hs (by omega), h1, h2, decide_eq_true (show 0 ≤ (n : Int) by omega), wrI64 (by omega) (by omega), rtV_eq hs (by omega)] at h
    simp only [tpR]
    cases hb : m.testBit (13 * s + n) with
    | true =>
      rw [hb] at h
      exact ⟨_, _, _, h, codesE, .inr ⟨by simp, by rw [if_pos rfl]; rfl⟩⟩
    | false =>
      rw [hb] at h
      exact ⟨_, _, _, h, codesE, .inl ⟨rfl, n, rfl, by omega, by omega, by rw [if_neg (by simp)]⟩⟩
theorem ro_loop (rd : Option Nat) (m s : Nat) (z : Int) (b : Bool) (hm : m < 4503599627370496) (hs : s ≤ 3) : ∀ x : Nat, x ≤ 13 →
    SimC Tryd.prog 0 rd (.loop roLp) (rtT.at [.i (m : Int), .i (s : Int), .i z, .b b, .i ((13 - x : Nat) : Int)]) (tpFin z b (loR m s (13 - x) x)).1 (rtX.at (tpFin z b (loR m s (13 - x) x)).2) := by
  refine loop_of_rounds (C := orcNR R0) (L := noLoops) (N := 100) (me := 45) (T := rtT) (T' := rtX) orcNR_ok mixed noLoops_ok (by kernel_rfl) (by kernel_rfl) (X := Nat)
    (fun x => [.i (m : Int), .i (s : Int), .i z, .b b, .i ((13 - x : Nat) : Int)]) (fun x => x ≤ 13) (fun x => x) (fun x => tpFin z b (loR m s (13 - x) x)) ?_
  intro x hx
  have h := ro_round R0 rd (m : Int) (s : Int) z ((13 - x : Nat) : Int) b
  cases x with
  | zero => exact ⟨_, _, _, h, codesE, .inr ⟨by simp, rfl⟩⟩
  | succ n =>
    obtain ⟨h1, h2⟩ := has0 (m := m) (by omega) (c := 13 * s + (13 - (n + 1))) (by omega)
    rw [wrI64 (x := (s : Int)) (by omega) (by omega), rIx_eq hs (by omega), h1, h2, decide_eq_true (show ((13 - (n + 1) : Nat) : Int) < 13 by omega), wrI64 (by omega) (by omega), rtV_eq hs (by omega)] at h
    simp only [loR]
    cases hb : m.testBit (13 * s + (13 - (n + 1))) with
    | true =>
      rw [hb] at h
      exact ⟨_, _, _, h, codesE, .inr ⟨by simp, by rw [if_pos rfl]; rfl⟩⟩
    | false =>
      rw [hb] at h
      refine ⟨_, _, _, h, codesE, .inl ⟨rfl, n, ?_, by omega, by omega, ?_⟩⟩
      · rw [show ((13 - (n + 1) : Nat) : Int) + 1 = ((13 - n : Nat) : Int) by omega]
      · rw [if_neg (by simp), show 13 - (n + 1) + 1 = 13 - n by omega]
def rtC (m s : Int) : Bool := decide (0 ≤ m ∧ m < 4503599627370496 ∧ 0 ≤ s ∧ s ≤ 3)
noncomputable def rtTree : List PV → Fin
  | [.i m, .i s, .i z, .b b, .i r] => .br (rtC m s && decide (r = 12)) (.br (tpR m.toNat s.toNat 13).isSome (.leaf .ret (rtX.at [.i (((tpR m.toNat s.toNat 13).getD 0 : Nat) : Int), .b true])) (.leaf (.exit 0) (rtX.at [.i z, .b b]))) .no
  | _ => .no
noncomputable def roTree : List PV → Fin
  | [.i m, .i s, .i z, .b b, .i r] => .br (rtC m s && decide (r = 0)) (.br (loR m.toNat s.toNat 0 13).isSome (.leaf .ret (rtX.at [.i (((loR m.toNat s.toNat 0 13).getD 0 : Nat) : Int), .b true])) (.leaf (.exit 0) (rtX.at [.i z, .b b]))) .no
  | _ => .no
noncomputable def rtL : Loops := sums (fun n => match n with | 4 => some (lsumF 0 rtT rtLp rtTree) | _ => none)
noncomputable def roL : Loops := sums (fun n => match n with | 4 => some (lsumF 0 rtT roLp roTree) | _ => none)
theorem rtL_ok : loopsOk Tryd.prog rtL := by
  intro n g hg
  simp only [rtL, sums] at hg
  split at hg
  · cases hg
    refine lsumF_ok (by kernel_rfl) (fun rd ps e1 st1 hq => ?_)
    unfold rtTree at hq
    split at hq
    · rename_i m s z b r
      simp only [Fin.pick] at hq
      cases hc : (rtC m s && decide (r = 12)) with
      | false => rw [hc] at hq; cases hq
      | true =>
        rw [hc, cond_true] at hq
        unfold rtC at hc
        simp only [Bool.and_eq_true, decide_eq_true_eq] at hc
        obtain ⟨⟨h1, h2, h3, h4⟩, rfl⟩ := hc
        have := rt_loop rd m.toNat s.toNat z b (by omega) (by omega) 13 (Nat.le_refl _)
        rw [show ((m.toNat : Nat) : Int) = m by omega, show ((s.toNat : Nat) : Int) = s by omega] at this
        cases ht : tpR m.toNat s.toNat 13 with
        | none => rw [ht] at hq this; cases hq; exact this
        | some t => rw [ht] at hq this; cases hq; exact this
    · cases hq
  · cases hg
theorem roL_ok : loopsOk Tryd.prog roL := by
  intro n g hg
  simp only [roL, sums] at hg
  split at hg
  · cases hg
    refine lsumF_ok (by kernel_rfl) (fun rd ps e1 st1 hq => ?_)
    unfold roTree at hq
    split at hq
    · rename_i m s z b r
      simp only [Fin.pick] at hq
      cases hc : (rtC m s && decide (r = 0)) with
      | false => rw [hc] at hq; cases hq
      | true =>
        rw [hc, cond_true] at hq
        unfold rtC at hc
        simp only [Bool.and_eq_true, decide_eq_true_eq] at hc
        obtain ⟨⟨h1, h2, h3, h4⟩, rfl⟩ := hc
        have := ro_loop rd m.toNat s.toNat z b (by omega) (by omega) 13 (Nat.le_refl _)
        rw [show ((m.toNat : Nat) : Int) = m by omega, show ((s.toNat : Nat) : Int) = s by omega, show 13 - 13 = 0 from rfl] at this
        cases ht : loR m.toNat s.toNat 0 13 with
        | none => rw [ht] at hq this; cases hq; exact this
        | some t => rw [ht] at hq this; cases hq; exact this
    · cases hq
  · cases hg
def tpOut (o : Option Nat) : V := .tuple [.int .u8 ((o.getD 0 : Nat) : Int), .bool o.isSome]
theorem rtop_eval (N : NR) (m s : Int) : evalFn Tryd.prog (orcNR N) rtL 100 44 Tryd.f44 [.int .u64 m, .int .u8 s] [] (fun v _ => some v) =
    bif decide (3 < s) then some (.tuple [.int .u8 0, .bool false]) else bif !decide (m < 4503599627370496) then some (.tuple [.int .u8 0, .bool false]) else cond (codesB [(rtLp, rtLp)]) (bif rtC m s && true then bif (tpR m.toNat s.toNat 13).isSome then
      some (.tuple [.int .u8 (((tpR m.toNat s.toNat 13).getD 0 : Nat) : Int), .bool true]) else some (.tuple [.int .u8 0, .bool false]) else none) none := by kernel_rfl
theorem rlow_eval (N : NR) (m s : Int) : evalFn Tryd.prog (orcNR N) roL 100 45 Tryd.f45 [.int .u64 m, .int .u8 s] [] (fun v _ => some v) =
    bif decide (3 < s) then some (.tuple [.int .u8 0, .bool false]) else bif !decide (m < 4503599627370496) then some (.tuple [.int .u8 0, .bool false]) else cond (codesB [(roLp, roLp)]) (bif rtC m s && true then bif (loR m.toNat s.toNat 0 13).isSome then
      some (.tuple [.int .u8 (((loR m.toNat s.toNat 0 13).getD 0 : Nat) : Int), .bool true]) else some (.tuple [.int .u8 0, .bool false]) else none) none := by kernel_rfl
end Go.Proofs.YtbocdcnkmcejjaaDoor
