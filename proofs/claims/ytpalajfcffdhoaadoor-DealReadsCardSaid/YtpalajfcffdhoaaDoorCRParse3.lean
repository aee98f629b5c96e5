/- Texts merged: CRParse3, E1, E2. -/
import Derived.Test.YtpalajfcffdhoaaDoorCRParse2
import Derived.Test.YtpalajfcffdhoaaDoorCBase
/- Chapter 4, the reference: Parse: its contract, that of card's own. -/
namespace Go.Proofs.YtpalajfcffdhoaaDoor.N4
open Go Go.Eng
def pmO (s : ByteArray) : Bool := (pmR s.data.toList 0 3 13).isSome
def pmM (s : ByteArray) : Int := match pmR s.data.toList 0 3 13 with
  | some p => p.1
  | none => 0
def pmS (s : ByteArray) : Int := match pmR s.data.toList 0 3 13 with
  | some p => p.2
  | none => 0
def rpP (z e m su la i : Int) (s : ByteArray) : Prop := z = 0 ∧ e = 0 ∧ m = 0 ∧ su = 3 ∧ la = 13 ∧ i = 0 ∧ s.data.toList.length ≤ 1000000
noncomputable def rpTree1 : List PV → Fin
  | [.s s, .i z, .i e, .i m, .i su, .i la, .i i] => .br (pB (rpP z e m su la i s)) (.br (pmO s) (.leaf (.exit 0) (rpX1.at [.i 0, .i 0, .i (pmM s), .i (pmS s)])) (.leaf .ret (rpXr.at [.i 0, .i 40]))) .no
  | _ => .no
noncomputable def rpL1 : Loops := sums (fun n => match n with | 5 => some (lsumF 0 rpT1 rpLp1 rpTree1) | _ => none)
theorem rpL1_ok : loopsOk Tryd.prog rpL1 := by
  intro n g hg
  simp only [rpL1, sums] at hg
  split at hg
  · cases hg
    refine lsumF_ok (by kernel_rfl) (fun rd ps e1 st1 hq => ?_)
    unfold rpTree1 at hq
    split at hq
    · rename_i s z e m su la i
      simp only [Fin.pick] at hq
      cases hc : pB (rpP z e m su la i s) with
      | false => rw [hc] at hq; cases hq
      | true =>
        rw [hc, cond_true] at hq
        rw [pB_iff] at hc
        obtain ⟨rfl, rfl, rfl, rfl, rfl, rfl, h1⟩ := hc
        obtain ⟨n, this⟩ := rp_loop1 rd s.data.toList 0 0 h1 ⟨0, 0, 3, 13⟩ ⟨Nat.zero_le _, by decide, Nat.le_refl _, Nat.le_refl _, fun t _ => by simp⟩
        dsimp only at this
        rw [show s.data.toList.drop 0 = s.data.toList from rfl] at this
        unfold pmO pmM pmS at hq
        cases hz : pmR s.data.toList 0 3 13 with
        | some p =>
          rw [hz] at hq this
          cases hq
          exact this.loop
        | none =>
          rw [hz] at hq this
          cases hq
          exact this.loop
    · cases hq
  · cases hg
theorem rparse_eval (N : NR) (s : ByteArray) : evalFn Tryd.prog (orcNR N) rpL1 100 49 Tryd.f49 [.str s] [] (fun v _ => some v) =
    cond (codesB [(rpLp1, rpLp1)]) (bif pB (rpP 0 0 0 3 13 0 s) then bif pmO s then bif !decide (pmS s = 0) then some (.tuple [.int .u64 0, .int .i64 40]) else some (.tuple [.int .u64 (pmM s), .int .i64 0]) else some (.tuple [.int .u64 0, .int .i64 40]) else none) none := by kernel_rfl
theorem rparse_p {s : ByteArray} (h : s.data.toList.length ≤ 1000000) : FnPure Tryd.prog 49 [.str s] (.tuple [.int .u64 (prV s), .int .i64 (prE s)]) := by
  have cd : codesB [(rpLp1, rpLp1)] = true := by rw [codesB_iff]; intro x hx; simp at hx; rw [hx]
  have key : evalFn Tryd.prog (orcNR R0) rpL1 100 49 Tryd.f49 [.str s] [] (fun v _ => some v) = some (.tuple [.int .u64 (prV s), .int .i64 (prE s)]) := by
    rw [rparse_eval, cd, pB_iff.2 ⟨rfl, rfl, rfl, rfl, rfl, rfl, h⟩]
    unfold prV prE
    rw [← prR_is]
    unfold prR pmO pmM pmS
    cases hp : pmR s.data.toList 0 3 13 with
    | none => rfl
    | some p =>
      obtain ⟨m, q⟩ := p
      cases q with
      | zero => rfl
      | succ q =>
        simp only [Option.isSome_some, cond_true]
        rw [decide_eq_false (show ¬ ((q + 1 : Nat) : Int) = 0 by omega)]; rfl
  exact fnPure_of_eval (N := 100) orcNR_ok mixed Tryd.func49 (by kernel_rfl) rpL1_ok key rfl rfl
end Go.Proofs.YtpalajfcffdhoaaDoor.N4

/- Chapter 6, the reference: many, holders: their loops. -/
namespace Go.Proofs.YtpalajfcffdhoaaDoor
open Go Go.Eng Go.Deal
theorem codesNil : codesOk [] := fun x h => by cases h
theorem codesD {a : Code} : codesB [(a, a)] = true := by rw [codesB_iff]; intro x hx; simp at hx; rw [hx]
def gHas (K H : Int → Int → Bool) : List V → Option (Bool × V)
  | [.int .u64 m, .int .i64 c] => some (K m c, .bool (H m c))
  | _ => none
def tabH (K H : Int → Int → Bool) : PTab := addTab 91 (gHas K H) emptyTab
noncomputable abbrev orcH (K H : Int → Int → Bool) : Oracle := orcN n6 (tabH K H) plainL
noncomputable def maLp : Code := loopOf 3 Tryd.f77
def maT : Tm := ⟨mkS [(0, .int .u64), (3, .int .i64), (4, .int .i64)] 0 15, [], []⟩
def maX : Tm := ⟨mkS [(3, .int .i64)] 0 15, [], []⟩
theorem ma_round (K H : Int → Int → Bool) (rd : Option Nat) (m n c : Int) : roundT Tryd.prog (orcH K H) noLoops 100 0 rd 77 maLp maT maX [.i m, .i n, .i c] =
    bif decide (c < 52) then bif K m c then bif H m c then some (.normal, [.i m, .i (wr .i64 (n + 1)), .i (wr .i64 (c + 1))], []) else some (.normal, [.i m, .i n, .i (wr .i64 (c + 1))], []) else none
    else some (.exit 0, [.i n], []) := by kernel_rfl
end Go.Proofs.YtpalajfcffdhoaaDoor

/- Chapter 6, the reference: many, holders, Partial: their contracts. -/
namespace Go.Proofs.YtpalajfcffdhoaaDoor
open Go Go.Eng Go.Deal
def kHas (m c : Int) : Bool := decide (0 ≤ m ∧ m < 18446744073709551616 ∧ 0 ≤ c ∧ c ≤ 1000)
theorem tabH_ok : PTabOk Tryd.prog (tabH kHas N4.hasB) := by
  refine addTab_ok ?_ emptyTab_ok
  intro args c v h hc
  unfold gHas at h; split at h
  · cases h
    unfold kHas at hc
    rw [decide_eq_true_eq] at hc
    exact N4.has_p ⟨hc.1, hc.2.1⟩ hc.2.2.1 hc.2.2.2
  · cases h
theorem orcH_ok : OracleOk Tryd.prog (orcH kHas N4.hasB) := orcN_ok tabH_ok plainL_ok
theorem kHas_n {m c : Nat} (hm : m < 18446744073709551616) (hc : c ≤ 1000) : kHas (m : Int) (c : Int) = true := by unfold kHas; rw [decide_eq_true_eq]; omega
theorem hasB_n (m c : Nat) : N4.hasB (m : Int) (c : Int) = m.testBit c := by unfold N4.hasB; rw [Int.toNat_natCast, Int.toNat_natCast]
theorem ma_loop (rd : Option Nat) (m : Nat) (hm : m < 18446744073709551616) : ∀ c : Nat, c ≤ 52 →
    SimC Tryd.prog 0 rd (.loop maLp) (maT.at [.i (m : Int), .i ((cnt m c : Nat) : Int), .i (c : Int)]) (.exit 0) (maX.at [.i ((cnt m 52 : Nat) : Int)]) := by
  refine loop_of_rounds (C := orcH kHas N4.hasB) (L := noLoops) (N := 100) (me := 77) (T := maT) (T' := maX) orcH_ok mixed noLoops_ok (by kernel_rfl) (by kernel_rfl) (X := Nat)
    (fun c => [.i (m : Int), .i ((cnt m c : Nat) : Int), .i (c : Int)]) (fun c => c ≤ 52) (fun c => 52 - c) (fun _ => (.exit 0, [.i ((cnt m 52 : Nat) : Int)])) ?_
  intro c hc
  have h := ma_round kHas N4.hasB rd (m : Int) ((cnt m c : Nat) : Int) (c : Int)
  have hcl := cnt_le m c
  by_cases hlt : c < 52
  · rw [decide_eq_true (show (c : Int) < 52 by omega), cond_true, kHas_n hm (by omega), cond_true, hasB_n, wr64 (x := (c : Int) + 1) (by omega) (by omega)] at h
    by_cases hb : m.testBit c = true
    · rw [hb, cond_true, wr64 (by omega) (by omega)] at h
      exact ⟨_, _, _, h, codesNil, .inl ⟨rfl, c + 1, by rw [cnt_s, if_pos hb]; rfl, by omega, by omega, rfl⟩⟩
    · rw [Bool.eq_false_iff.2 hb, cond_false] at h
      exact ⟨_, _, _, h, codesNil, .inl ⟨rfl, c + 1, by rw [cnt_s, if_neg hb]; rfl, by omega, by omega, rfl⟩⟩
  · have : c = 52 := by omega
    subst this
    rw [decide_eq_false (show ¬ ((52 : Nat) : Int) < 52 by decide), cond_false] at h
    exact ⟨_, _, _, h, codesNil, .inr ⟨(fun h => by cases h), rfl⟩⟩
def maC (m n c : Int) : Bool := decide (0 ≤ m ∧ m < 18446744073709551616 ∧ n = 0 ∧ c = 0)
noncomputable def maTr : List PV → Fin
  | [.i m, .i n, .i c] => .br (maC m n c) (.leaf (.exit 0) (maX.at [.i ((cnt m.toNat 52 : Nat) : Int)])) .no
  | _ => .no
noncomputable def maL : Loops := sums (fun n => match n with | 3 => some (lsumF 0 maT maLp maTr) | _ => none)
theorem maL_ok : loopsOk Tryd.prog maL := by
  intro n g hg
  simp only [maL, sums] at hg
  split at hg
  · cases hg
    refine lsumF_ok (by kernel_rfl) (fun rd ps e1 s1 h => ?_)
    unfold maTr at h
    split at h
    · rename_i m n c
      simp only [Fin.pick] at h
      cases hc : maC m n c with
      | false => rw [hc] at h; cases h
      | true =>
        rw [hc, cond_true] at h
        unfold maC at hc
        rw [decide_eq_true_eq] at hc
        obtain ⟨h1, h2, rfl, rfl⟩ := hc
        obtain ⟨k, rfl⟩ : ∃ x : Nat, m = x := ⟨m.toNat, by omega⟩
        have hl := ma_loop rd k (by omega) 0 (by omega)
        rw [Int.toNat_natCast] at h
        cases h
        exact hl
    · cases h
  · cases hg
theorem many_eval (m : Int) : evalFn Tryd.prog (orcH kHas N4.hasB) maL 100 77 Tryd.f77 [.int .u64 m] [] (fun v _ => some v) =
    cond (codesB [(maLp, maLp)]) (bif maC m 0 0 then some (.int .i64 ((cnt m.toNat 52 : Nat) : Int)) else none) none := by kernel_rfl
def maI (m : Int) : Int := ((cnt m.toNat 52 : Nat) : Int)
theorem many_p {m : Int} (h : in64 m = true) : FnPure Tryd.prog 77 [.int .u64 m] (.int .i64 (maI m)) := by
  rw [in64_iff] at h
  refine fnPure_of_eval (N := 100) orcH_ok mixed Tryd.func77 (by kernel_rfl) maL_ok ?_ rfl rfl
  rw [many_eval, codesD, cond_true, show maC m 0 0 = true by unfold maC; rw [decide_eq_true_eq]; omega]
  rfl
/-! ### holders -/
def hoS (K H : Int → Int → Bool) (c x n : Int) (k : Int → Option V) : Option V := bif K x c then bif H x c then k (wr .i64 (n + 1)) else k n else none
theorem hold_eval (K H : Int → Int → Bool) (a b c d k : Int) : evalFn Tryd.prog (orcH K H) noLoops 100 78 Tryd.f78 [q4 a b c d, .int .i64 k] [] (fun v _ => some v) =
    hoS K H k a 0 fun n => hoS K H k b n fun n => hoS K H k c n fun n => hoS K H k d n fun n => some (.int .i64 n) := by kernel_rfl
def b1 (x k : Int) : Int := bif x.toNat.testBit k.toNat then 1 else 0
def hoI (a b c d k : Int) : Int := b1 a k + b1 b k + b1 c k + b1 d k
theorem hoS_is {x k n : Nat} (hx : x < 18446744073709551616) (hk : k ≤ 1000) (hn : n ≤ 10) (K : Int → Option V) : hoS kHas N4.hasB (k : Int) (x : Int) (n : Int) K = K ((n : Int) + b1 (x : Int) (k : Int)) := by
  unfold hoS b1
  rw [kHas_n hx hk, hasB_n, cond_true, Int.toNat_natCast, Int.toNat_natCast, wr64 (by omega) (by omega)]
  cases x.testBit k
  · rw [cond_false, cond_false, Int.add_zero]
  · rfl
theorem b1_n (x k : Int) : ∃ m : Nat, b1 x k = m ∧ m ≤ 1 := by
  unfold b1
  cases x.toNat.testBit k.toNat
  · exact ⟨0, rfl, by omega⟩
  · exact ⟨1, rfl, by omega⟩
theorem hold_p {a b c d k : Int} (h : in4 a b c d = true) (hk : 0 ≤ k ∧ k ≤ 1000) : FnPure Tryd.prog 78 [q4 a b c d, .int .i64 k] (.int .i64 (hoI a b c d k)) := by
  obtain ⟨a, b, c, d, rfl, rfl, rfl, rfl, ha, hb, hc, hd⟩ := in4_nat h
  obtain ⟨k, rfl⟩ : ∃ x : Nat, k = x := ⟨k.toNat, by omega⟩
  refine fnPure_of_eval (N := 100) orcH_ok mixed Tryd.func78 (by kernel_rfl) noLoops_ok ?_ rfl rfl
  obtain ⟨x, ex, lx⟩ := b1_n a k; obtain ⟨y, ey, ly⟩ := b1_n b k; obtain ⟨z, ez, lz⟩ := b1_n c k; obtain ⟨w, ew, lw⟩ := b1_n d k
  have s0 := hoS_is (n := 0) ha (show k ≤ 1000 by omega) (by omega) (fun n => hoS kHas N4.hasB k b n fun n => hoS kHas N4.hasB k c n fun n => hoS kHas N4.hasB k d n fun n => some (.int .i64 n))
  refine (hold_eval kHas N4.hasB _ _ _ _ _).trans (s0.trans ?_)
  have e1 : ((0 : Nat) : Int) + b1 (a : Int) (k : Int) = ((x : Nat) : Int) := by rw [ex]; omega
  rw [e1, hoS_is hb (by omega) (by omega), ey, ← Int.natCast_add, hoS_is hc (by omega) (by omega), ez, ← Int.natCast_add, hoS_is hd (by omega) (by omega), ew, ← Int.natCast_add]
  unfold hoI
  rw [ex, ey, ez, ew, ← Int.natCast_add, ← Int.natCast_add, ← Int.natCast_add]
end Go.Proofs.YtpalajfcffdhoaaDoor
