/- Texts merged: CBase, CRHas, E1, E2. -/
import Derived.Test.YtpalajfcffdhoaaGreatDoorTrn
import Derived.Test.YtpalajfcffdhoaaGreatDoorEng4
/- Chapter 6: what the ported texts of chapter 4 (namespace N4) begin with. -/
namespace Go.Proofs.YtpalajfcffdhoaaGreatDoor.N4
open Go Go.Eng
noncomputable def ftab : FTab := fun i => Tryz.prog.funcs[i]?
theorem ftab_ok : FTabOk Tryz.prog ftab := fun _ _ h => h
theorem mixed : Tryz.prog.follows .mixedOrders = true := by kernel_rfl
def never : FuncId → Bool := fun _ => false
def plainL : FuncId → Loops := fun _ => noLoops
theorem plainL_ok : ∀ f, loopsOk Tryz.prog (plainL f) := fun _ => noLoops_ok
end Go.Proofs.YtpalajfcffdhoaaGreatDoor.N4

/- Chapter 4, the reference: Has, bit, sign. -/
namespace Go.Proofs.YtpalajfcffdhoaaGreatDoor.N4
open Go Go.Eng
noncomputable abbrev orc0 : Oracle := oracleOf emptyTab
theorem orc0_ok : OracleOk Tryz.prog orc0 := oracleOf_ok emptyTab_ok
theorem codesE : codesOk [] := fun x h => by cases h
theorem wrI64 {x : Int} (h1 : -9223372036854775808 ≤ x) (h2 : x < 9223372036854775808) : wr .i64 x = x := by
  simp only [wr, sgn]
  cases h : decide (9223372036854775808 ≤ x % 18446744073709551616) with
  | true => simp only [decide_eq_true_eq] at h; simp only [cond_true]; omega
  | false => simp only [decide_eq_false_iff_not] at h; simp only [cond_false]; omega
noncomputable def haLp : Code := loopOf 2 Tryz.f49
def haT : Tm := ⟨mkS [(0, .int .u64), (1, .int .i64), (5, .int .i64)] 0 16, [], []⟩
def haX : Tm := ⟨mkS [(0, .int .u64)] 0 16, [], []⟩
theorem ha_round (rd : Option Nat) (m c i : Int) : roundT Tryz.prog orc0 noLoops 100 0 rd 49 haLp haT haX [.i m, .i c, .i i] =
    bif decide (i < c) then some (.normal, [.i (wr .u64 (m.tdiv 2)), .i c, .i (wr .i64 (i + 1))], []) else some (.exit 0, [.i m], []) := by kernel_rfl
theorem ha_loop (rd : Option Nat) (c : Nat) (hc : c ≤ 1000) : ∀ x : Nat × Nat, (x.2 ≤ c ∧ x.1 < 18446744073709551616) →
    SimC Tryz.prog 0 rd (.loop haLp) (haT.at [.i (x.1 : Int), .i (c : Int), .i (x.2 : Int)]) (.exit 0) (haX.at [.i ((x.1 / 2 ^ (c - x.2) : Nat) : Int)]) := by
  refine loop_of_rounds (C := orc0) (L := noLoops) (N := 100) (me := 49) (T := haT) (T' := haX) orc0_ok mixed noLoops_ok (by kernel_rfl) (by kernel_rfl) (X := Nat × Nat)
    (fun x => [.i (x.1 : Int), .i (c : Int), .i (x.2 : Int)]) (fun x => x.2 ≤ c ∧ x.1 < 18446744073709551616) (fun x => c - x.2) (fun x => (.exit 0, [.i ((x.1 / 2 ^ (c - x.2) : Nat) : Int)])) ?_
  rintro ⟨m, i⟩ ⟨hi, hm⟩
  dsimp only at hi hm ⊢
  have h := ha_round rd (m : Int) (c : Int) (i : Int)
  rcases Nat.lt_or_ge i c with hlt | hge
  · rw [decide_eq_true (show (i : Int) < (c : Int) by omega), cond_true, wrI64 (by omega) (by omega), show ((m : Int)).tdiv 2 = ((m / 2 : Nat) : Int) from rfl, show wr .u64 ((m / 2 : Nat) : Int) = ((m / 2 : Nat) : Int) from (by show ((m / 2 : Nat) : Int) % 18446744073709551616 = _; omega)] at h
    refine ⟨_, _, _, h, codesE, .inl ⟨rfl, (m / 2, i + 1), rfl, ⟨by dsimp only; omega, by dsimp only; omega⟩, by dsimp only; omega, ?_⟩⟩
    dsimp only
    rw [show c - i = (c - (i + 1)) + 1 by omega, Nat.pow_succ, Nat.mul_comm, ← Nat.div_div_eq_div_mul]
  · obtain rfl : i = c := by omega
    rw [decide_eq_false (show ¬ (i : Int) < (i : Int) by omega), cond_false] at h
    refine ⟨_, _, _, h, codesE, .inr ⟨by simp, ?_⟩⟩
    rw [Nat.sub_self, Nat.pow_zero, Nat.div_one]
def haC (m c i : Int) : Bool := decide (0 ≤ m ∧ m < 18446744073709551616 ∧ 0 ≤ c ∧ c ≤ 1000 ∧ i = 0)
noncomputable def haTree : List PV → Fin
  | [.i m, .i c, .i i] => .br (haC m c i) (.leaf (.exit 0) (haX.at [.i ((m.toNat / 2 ^ c.toNat : Nat) : Int)])) .no
  | _ => .no
noncomputable def haL : Loops := sums (fun n => match n with | 2 => some (lsumF 0 haT haLp haTree) | _ => none)
theorem haL_ok : loopsOk Tryz.prog haL := by
  intro n g hg
  simp only [haL, sums] at hg
  split at hg
  · cases hg
    refine lsumF_ok (by kernel_rfl) (fun rd ps e1 st1 hq => ?_)
    unfold haTree at hq
    split at hq
    · rename_i m c i
      simp only [Fin.pick] at hq
      cases hc : haC m c i with
      | false => rw [hc] at hq; cases hq
      | true =>
        rw [hc, cond_true] at hq
        cases hq
        unfold haC at hc
        rw [decide_eq_true_eq] at hc
        obtain ⟨h1, h1', h2, h3, rfl⟩ := hc
        have := ha_loop rd c.toNat (by omega) (m.toNat, 0) ⟨Nat.zero_le _, by dsimp only; omega⟩
        dsimp only at this
        rw [show ((m.toNat : Nat) : Int) = m by omega, show ((c.toNat : Nat) : Int) = c by omega, Nat.sub_zero] at this
        exact this
    · cases hq
  · cases hg
theorem has_eval (m c : Int) : evalFn Tryz.prog orc0 haL 100 49 Tryz.f49 [.int .u64 m, .int .i64 c] [] (fun v _ => some v) =
    cond (codesB [(haLp, haLp)]) (bif haC m c 0 then some (.bool (decide ((((m.toNat / 2 ^ c.toNat : Nat) : Int)).tmod 2 = 1))) else none) none := by kernel_rfl
def hasB (m c : Int) : Bool := m.toNat.testBit c.toNat
theorem has_p {m c : Int} (h1 : 0 ≤ m ∧ m < 18446744073709551616) (h2 : 0 ≤ c) (h3 : c ≤ 1000) : FnPure Tryz.prog 49 [.int .u64 m, .int .i64 c] (.bool (hasB m c)) := by
  refine fnPure_of_eval (N := 100) orc0_ok mixed Tryz.func49 (by kernel_rfl) haL_ok ?_ rfl rfl
  have cd : codesB [(haLp, haLp)] = true := by rw [codesB_iff]; intro x hx; simp at hx; rw [hx]
  have hC : haC m c 0 = true := by unfold haC; rw [decide_eq_true_eq]; omega
  rw [has_eval, cd, hC]
  unfold hasB
  rw [Nat.testBit_eq_decide_div_mod_eq, show (((m.toNat / 2 ^ c.toNat : Nat) : Int)).tmod 2 = ((m.toNat / 2 ^ c.toNat % 2 : Nat) : Int) from rfl]
  simp only [cond_true]
  congr 2
  rw [Bool.eq_iff_iff, decide_eq_true_eq, decide_eq_true_eq]
  omega
noncomputable def biLp : Code := loopOf 3 Tryz.f93
def biT : Tm := ⟨mkS [(0, .int .u8), (3, .int .u64), (4, .int .u8)] 0 14, [], []⟩
def biX : Tm := ⟨mkS [(3, .int .u64)] 0 14, [], []⟩
theorem bi_round (rd : Option Nat) (c m i : Int) : roundT Tryz.prog orc0 noLoops 100 0 rd 93 biLp biT biX [.i c, .i m, .i i] =
    bif decide (i < c) then some (.normal, [.i c, .i (wr .u64 (m + m)), .i (wr .u8 (i + 1))], []) else some (.exit 0, [.i m], []) := by kernel_rfl
theorem bi_loop (rd : Option Nat) (c : Nat) (hc : c ≤ 63) : ∀ i : Nat, i ≤ c →
    SimC Tryz.prog 0 rd (.loop biLp) (biT.at [.i (c : Int), .i ((2 ^ i : Nat) : Int), .i (i : Int)]) (.exit 0) (biX.at [.i ((2 ^ c : Nat) : Int)]) := by
  refine loop_of_rounds (C := orc0) (L := noLoops) (N := 100) (me := 93) (T := biT) (T' := biX) orc0_ok mixed noLoops_ok (by kernel_rfl) (by kernel_rfl) (X := Nat)
    (fun i => [.i (c : Int), .i ((2 ^ i : Nat) : Int), .i (i : Int)]) (fun i => i ≤ c) (fun i => c - i) (fun _ => (.exit 0, [.i ((2 ^ c : Nat) : Int)])) ?_
  intro i hi
  have h := bi_round rd (c : Int) ((2 ^ i : Nat) : Int) (i : Int)
  rcases Nat.lt_or_ge i c with hlt | hge
  · have hp : 2 ^ (i + 1) ≤ 2 ^ 63 := Nat.pow_le_pow_right (by decide) (by omega)
    have hp2 : 2 ^ (i + 1) = 2 ^ i + 2 ^ i := by rw [Nat.pow_succ]; omega
    have e1 : wr .u64 (((2 ^ i : Nat) : Int) + ((2 ^ i : Nat) : Int)) = ((2 ^ (i + 1) : Nat) : Int) := by
      show (((2 ^ i : Nat) : Int) + ((2 ^ i : Nat) : Int)) % 18446744073709551616 = _
      have h63 : (2 : Nat) ^ 63 = 9223372036854775808 := by decide
      rw [h63] at hp
      rw [hp2] at hp ⊢
      generalize 2 ^ i = q at *
      omega
    have e2 : wr .u8 ((i : Int) + 1) = ((i + 1 : Nat) : Int) := by
      show ((i : Int) + 1) % 256 = _
      omega
    rw [decide_eq_true (show (i : Int) < (c : Int) by omega), cond_true, e1, e2] at h
    exact ⟨_, _, _, h, codesE, .inl ⟨rfl, i + 1, rfl, by omega, by omega, rfl⟩⟩
  · obtain rfl : i = c := by omega
    rw [decide_eq_false (show ¬ (i : Int) < (i : Int) by omega), cond_false] at h
    exact ⟨_, _, _, h, codesE, .inr ⟨by simp, rfl⟩⟩
def biC (c m i : Int) : Bool := decide (0 ≤ c ∧ c ≤ 63 ∧ m = 1 ∧ i = 0)
noncomputable def biTree : List PV → Fin
  | [.i c, .i m, .i i] => .br (biC c m i) (.leaf (.exit 0) (biX.at [.i ((2 ^ c.toNat : Nat) : Int)])) .no
  | _ => .no
noncomputable def biL : Loops := sums (fun n => match n with | 3 => some (lsumF 0 biT biLp biTree) | _ => none)
theorem biL_ok : loopsOk Tryz.prog biL := by
  intro n g hg
  simp only [biL, sums] at hg
  split at hg
  · cases hg
    refine lsumF_ok (by kernel_rfl) (fun rd ps e1 st1 hq => ?_)
    unfold biTree at hq
    split at hq
    · rename_i c m i
      simp only [Fin.pick] at hq
      cases hc : biC c m i with
      | false => rw [hc] at hq; cases hq
      | true =>
        rw [hc, cond_true] at hq
        cases hq
        unfold biC at hc
        rw [decide_eq_true_eq] at hc
        obtain ⟨h1, h2, rfl, rfl⟩ := hc
        have := bi_loop rd c.toNat (by omega) 0 (Nat.zero_le _)
        rw [show ((c.toNat : Nat) : Int) = c by omega] at this
        exact this
    · cases hq
  · cases hg
theorem bit_eval (c : Int) : evalFn Tryz.prog orc0 biL 100 93 Tryz.f93 [.int .u8 c] [] (fun v _ => some v) =
    cond (codesB [(biLp, biLp)]) (bif biC c 1 0 then some (.int .u64 ((2 ^ c.toNat : Nat) : Int)) else none) none := by kernel_rfl
theorem bit_p {c : Int} (h1 : 0 ≤ c) (h2 : c ≤ 63) : FnPure Tryz.prog 93 [.int .u8 c] (.int .u64 ((2 ^ c.toNat : Nat) : Int)) := by
  refine fnPure_of_eval (N := 100) orc0_ok mixed Tryz.func93 (by kernel_rfl) biL_ok ?_ rfl rfl
  have cd : codesB [(biLp, biLp)] = true := by rw [codesB_iff]; intro x hx; simp at hx; rw [hx]
  have hC : biC c 1 0 = true := by unfold biC; rw [decide_eq_true_eq]; omega
  rw [bit_eval, cd, hC]; rfl
def sgB (r : Int) : ByteArray := bif decide (r = 8) then ⟨#[84]⟩ else bif decide (r = 9) then ⟨#[74]⟩ else bif decide (r = 10) then ⟨#[81]⟩ else bif decide (r = 11) then ⟨#[75]⟩ else bif decide (r = 12) then ⟨#[65]⟩ else bytesOf [wr .u8 (wr .i64 (50 + r))]
theorem sign_eval (r : Int) : evalFn Tryz.prog orc0 noLoops 100 70 Tryz.f70 [.int .i64 r] [] (fun v _ => some v) =
    bif decide (r = 8) then some (.str ⟨#[84]⟩) else bif decide (r = 9) then some (.str ⟨#[74]⟩) else bif decide (r = 10) then some (.str ⟨#[81]⟩) else bif decide (r = 11) then some (.str ⟨#[75]⟩) else bif decide (r = 12) then some (.str ⟨#[65]⟩) else some (.str (bytesOf [wr .u8 (wr .i64 (50 + r))])) := by kernel_rfl
theorem sign_p (r : Int) : FnPure Tryz.prog 70 [.int .i64 r] (.str (sgB r)) := by
  refine fnPure_of_eval (N := 100) orc0_ok mixed Tryz.func70 (by kernel_rfl) noLoops_ok ?_ rfl rfl
  rw [sign_eval]
  unfold sgB
  cases decide (r = 8) <;> cases decide (r = 9) <;> cases decide (r = 10) <;> cases decide (r = 11) <;> cases decide (r = 12) <;> rfl
end Go.Proofs.YtpalajfcffdhoaaGreatDoor.N4

/- Chapter 6, the reference: many, holders: their loops. -/
namespace Go.Proofs.YtpalajfcffdhoaaGreatDoor
open Go Go.Eng Go.Deal
theorem codesNil : codesOk [] := fun x h => by cases h
theorem codesD {a : Code} : codesB [(a, a)] = true := by rw [codesB_iff]; intro x hx; simp at hx; rw [hx]
def gHas (K H : Int → Int → Bool) : List V → Option (Bool × V)
  | [.int .u64 m, .int .i64 c] => some (K m c, .bool (H m c))
  | _ => none
def tabH (K H : Int → Int → Bool) : PTab := addTab 49 (gHas K H) emptyTab
noncomputable abbrev orcH (K H : Int → Int → Bool) : Oracle := orcN n6 (tabH K H) plainL
noncomputable def maLp : Code := loopOf 3 Tryz.f25
def maT : Tm := ⟨mkS [(0, .int .u64), (3, .int .i64), (4, .int .i64)] 0 15, [], []⟩
def maX : Tm := ⟨mkS [(3, .int .i64)] 0 15, [], []⟩
theorem ma_round (K H : Int → Int → Bool) (rd : Option Nat) (m n c : Int) : roundT Tryz.prog (orcH K H) noLoops 100 0 rd 25 maLp maT maX [.i m, .i n, .i c] =
    bif decide (c < 52) then bif K m c then bif H m c then some (.normal, [.i m, .i (wr .i64 (n + 1)), .i (wr .i64 (c + 1))], []) else some (.normal, [.i m, .i n, .i (wr .i64 (c + 1))], []) else none
    else some (.exit 0, [.i n], []) := by kernel_rfl
end Go.Proofs.YtpalajfcffdhoaaGreatDoor

/- Chapter 6, the reference: many, holders, Partial: their contracts. -/
namespace Go.Proofs.YtpalajfcffdhoaaGreatDoor
open Go Go.Eng Go.Deal
def kHas (m c : Int) : Bool := decide (0 ≤ m ∧ m < 18446744073709551616 ∧ 0 ≤ c ∧ c ≤ 1000)
theorem tabH_ok : PTabOk Tryz.prog (tabH kHas N4.hasB) := by
  refine addTab_ok ?_ emptyTab_ok
  intro args c v h hc
  unfold gHas at h; split at h
  · cases h
    unfold kHas at hc
    rw [decide_eq_true_eq] at hc
    exact N4.has_p ⟨hc.1, hc.2.1⟩ hc.2.2.1 hc.2.2.2
  · cases h
theorem orcH_ok : OracleOk Tryz.prog (orcH kHas N4.hasB) := orcN_ok tabH_ok plainL_ok
theorem kHas_n {m c : Nat} (hm : m < 18446744073709551616) (hc : c ≤ 1000) : kHas (m : Int) (c : Int) = true := by unfold kHas; rw [decide_eq_true_eq]; omega
theorem hasB_n (m c : Nat) : N4.hasB (m : Int) (c : Int) = m.testBit c := by unfold N4.hasB; rw [Int.toNat_natCast, Int.toNat_natCast]
theorem ma_loop (rd : Option Nat) (m : Nat) (hm : m < 18446744073709551616) : ∀ c : Nat, c ≤ 52 →
    SimC Tryz.prog 0 rd (.loop maLp) (maT.at [.i (m : Int), .i ((cnt m c : Nat) : Int), .i (c : Int)]) (.exit 0) (maX.at [.i ((cnt m 52 : Nat) : Int)]) := by
  refine loop_of_rounds (C := orcH kHas N4.hasB) (L := noLoops) (N := 100) (me := 25) (T := maT) (T' := maX) orcH_ok mixed noLoops_ok (by kernel_rfl) (by kernel_rfl) (X := Nat)
    (fun c => [.i (m : Int), .i ((cnt m c : Nat) : Int), .i (c : Int)]) (fun c => c ≤ 52) (fun c => 52 - c) (fun _ => (.exit 0, [.i ((cnt m 52 : Nat) : Int)])) ?_
  intro c hc
  have h := ma_round kHas N4.hasB rd (m : Int) ((cnt m c : Nat) : Int) (c : Int)
  have hcl := cnt_le m c
  by_cases hlt : c < 52
  · rw [decide_eq_true (show (c : Int) < 52 by omega), cond_true, kHas_n hm (by omega), cond_true, hasB_n, wr64 (x := (c : Int) + 1) (by omega) (by omega)] at h
    by_cases hb : m.testBit c = true
    · rw [hb, cond_true, wr64 (by omega) (by omega)] at h
      exact ⟨_, _, _, h, codesNil, .inl ⟨rfl, c + 1, by rw [cnt_s, if_pos hb]; rfl, by omega, by omega, rfl⟩⟩
    · rw [Bool.eq_false_iff.2 hb, cond_false] at h
      exact ⟨_, _, _, h, codesNil, .inl ⟨rfl, c + 1, by rw [cnt_s, if_neg hb]; rfl, by omega, by omega, rfl⟩⟩
  · have : c = 52 := by omega
    subst this
    rw [decide_eq_false (show ¬ ((52 : Nat) : Int) < 52 by decide), cond_false] at h
    exact ⟨_, _, _, h, codesNil, .inr ⟨(fun h => by cases h), rfl⟩⟩
def maC (m n c : Int) : Bool := decide (0 ≤ m ∧ m < 18446744073709551616 ∧ n = 0 ∧ c = 0)
noncomputable def maTr : List PV → Fin
  | [.i m, .i n, .i c] => .br (maC m n c) (.leaf (.exit 0) (maX.at [.i ((cnt m.toNat 52 : Nat) : Int)])) .no
  | _ => .no
noncomputable def maL : Loops := sums (fun n => match n with | 3 => some (lsumF 0 maT maLp maTr) | _ => none)
theorem maL_ok : loopsOk Tryz.prog maL := by
  intro n g hg
  simp only [maL, sums] at hg
  split at hg
  · cases hg
    refine lsumF_ok (by kernel_rfl) (fun rd ps e1 s1 h => ?_)
    unfold maTr at h
    split at h
    · rename_i m n c
      simp only [Fin.pick] at h
      cases hc : maC m n c with
      | false => rw [hc] at h; cases h
      | true =>
        rw [hc, cond_true] at h
        unfold maC at hc
        rw [decide_eq_true_eq] at hc
        obtain ⟨h1, h2, rfl, rfl⟩ := hc
        obtain ⟨k, rfl⟩ : ∃ x : Nat, m = x := ⟨m.toNat, by omega⟩
        have hl := ma_loop rd k (by omega) 0 (by omega)
        rw [Int.toNat_natCast] at h
        cases h
        exact hl
    · cases h
  · cases hg
theorem many_eval (m : Int) : evalFn Tryz.prog (orcH kHas N4.hasB) maL 100 25 Tryz.f25 [.int .u64 m] [] (fun v _ => some v) =
    cond (codesB [(maLp, maLp)]) (bif maC m 0 0 then some (.int .i64 ((cnt m.toNat 52 : Nat) : Int)) else none) none := by kernel_rfl
def maI (m : Int) : Int := ((cnt m.toNat 52 : Nat) : Int)
theorem many_p {m : Int} (h : in64 m = true) : FnPure Tryz.prog 25 [.int .u64 m] (.int .i64 (maI m)) := by
  rw [in64_iff] at h
  refine fnPure_of_eval (N := 100) orcH_ok mixed Tryz.func25 (by kernel_rfl) maL_ok ?_ rfl rfl
  rw [many_eval, codesD, cond_true, show maC m 0 0 = true by unfold maC; rw [decide_eq_true_eq]; omega]
  rfl
def hoS (K H : Int → Int → Bool) (c x n : Int) (k : Int → Option V) : Option V := bif K x c then bif H x c then k (wr .i64 (n + 1)) else k n else none
theorem hold_eval (K H : Int → Int → Bool) (a b c d k : Int) : evalFn Tryz.prog (orcH K H) noLoops 100 44 Tryz.f44 [q4 a b c d, .int .i64 k] [] (fun v _ => some v) =
    hoS K H k a 0 fun n => hoS K H k b n fun n => hoS K H k c n fun n => hoS K H k d n fun n => some (.int .i64 n) := by kernel_rfl
def b1 (x k : Int) : Int := bif x.toNat.testBit k.toNat then 1 else 0
def hoI (a b c d k : Int) : Int := b1 a k + b1 b k + b1 c k + b1 d k
theorem hoS_is {x k n : Nat} (hx : x < 18446744073709551616) (hk : k ≤ 1000) (hn : n ≤ 10) (K : Int → Option V) : hoS kHas N4.hasB (k : Int) (x : Int) (n : Int) K = K ((n : Int) + b1 (x : Int) (k : Int)) := by
  unfold hoS b1
  rw [kHas_n hx hk, hasB_n, cond_true, Int.toNat_natCast, Int.toNat_natCast, wr64 (by omega) (by omega)]
  cases x.testBit k
  · rw [cond_false, cond_false, Int.add_zero]
  · rfl
theorem b1_n (x k : Int) : ∃ m : Nat, b1 x k = m ∧ m ≤ 1 := by
  unfold b1
  cases x.toNat.testBit k.toNat
  · exact ⟨0, rfl, by omega⟩
  · exact ⟨1, rfl, by omega⟩
theorem hold_p {a b c d k : Int} (h : in4 a b c d = true) (hk : 0 ≤ k ∧ k ≤ 1000) : FnPure Tryz.prog 44 [q4 a b c d, .int .i64 k] (.int .i64 (hoI a b c d k)) := by
  obtain ⟨a, b, c, d, rfl, rfl, rfl, rfl, ha, hb, hc, hd⟩ := in4_nat h
  obtain ⟨k, rfl⟩ : ∃ x : Nat, k = x := ⟨k.toNat, by omega⟩
  refine fnPure_of_eval (N := 100) orcH_ok mixed Tryz.func44 (by kernel_rfl) noLoops_ok ?_ rfl rfl
  obtain ⟨x, ex, lx⟩ := b1_n a k; obtain ⟨y, ey, ly⟩ := b1_n b k; obtain ⟨z, ez, lz⟩ := b1_n c k; obtain ⟨w, ew, lw⟩ := b1_n d k
  have s0 := hoS_is (n := 0) ha (show k ≤ 1000 by omega) (by omega) (fun n => hoS kHas N4.hasB k b n fun n => hoS kHas N4.hasB k c n fun n => hoS kHas N4.hasB k d n fun n => some (.int .i64 n))
  refine (hold_eval kHas N4.hasB _ _ _ _ _).trans (s0.trans ?_)
  have e1 : ((0 : Nat) : Int) + b1 (a : Int) (k : Int) = ((x : Nat) : Int) := by rw [ex]; omega
  rw [e1, hoS_is hb (by omega) (by omega), ey, ← Int.natCast_add, hoS_is hc (by omega) (by omega), ez, ← Int.natCast_add, hoS_is hd (by omega) (by omega), ew, ← Int.natCast_add]
  unfold hoI
  rw [ex, ey, ez, ew, ← Int.natCast_add, ← Int.natCast_add, ← Int.natCast_add]
end Go.Proofs.YtpalajfcffdhoaaGreatDoor
