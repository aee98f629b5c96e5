/- Texts merged: CBase, CRHas. -/
import Derived.Test.YtpalajfcffdhoaaDoorAw3
import Derived.Test.YtpalajfcffdhoaaDoorEng4
/- Chapter 6: what the ported texts of chapter 4 (namespace N4) begin with. -/
namespace Go.Proofs.YtpalajfcffdhoaaDoor.N4
open Go Go.Eng
noncomputable def ftab : FTab := fun i => Tryd.prog.funcs[i]?
theorem ftab_ok : FTabOk Tryd.prog ftab := fun _ _ h => h
theorem mixed : Tryd.prog.follows .mixedOrders = true := by kernel_rfl
def never : FuncId → Bool := fun _ => false
def plainL : FuncId → Loops := fun _ => noLoops
theorem plainL_ok : ∀ f, loopsOk Tryd.prog (plainL f) := fun _ => noLoops_ok
end Go.Proofs.YtpalajfcffdhoaaDoor.N4

/- Chapter 4, the reference: Has, bit, sign. -/
namespace Go.Proofs.YtpalajfcffdhoaaDoor.N4
open Go Go.Eng
noncomputable abbrev orc0 : Oracle := oracleOf emptyTab
theorem orc0_ok : OracleOk Tryd.prog orc0 := oracleOf_ok emptyTab_ok
theorem codesE : codesOk [] := fun x h => by cases h
theorem wrI64 {x : Int} (h1 : -9223372036854775808 ≤ x) (h2 : x < 9223372036854775808) : wr .i64 x = x := by
  simp only [wr, sgn]
  cases h : decide (9223372036854775808 ≤ x % 18446744073709551616) with
  | true => simp only [decide_eq_true_eq] at h; simp only [cond_true]; omega
  | false => simp only [decide_eq_false_iff_not] at h; simp only [cond_false]; omega
/-! ### Has -/
noncomputable def haLp : Code := loopOf 2 Tryd.f91
def haT : Tm := ⟨mkS [(0, .int .u64), (1, .int .i64), (5, .int .i64)] 0 16, [], []⟩
def haX : Tm := ⟨mkS [(0, .int .u64)] 0 16, [], []⟩
theorem ha_round (rd : Option Nat) (m c i : Int) : roundT Tryd.prog orc0 noLoops 100 0 rd 91 haLp haT haX [.i m, .i c, .i i] =
    bif decide (i < c) then some (.normal, [.i (wr .u64 (m.tdiv 2)), .i c, .i (wr .i64 (i + 1))], []) else some (.exit 0, [.i m], []) := by kernel_rfl
theorem ha_loop (rd : Option Nat) (c : Nat) (hc : c ≤ 1000) : ∀ x : Nat × Nat, (x.2 ≤ c ∧ x.1 < 18446744073709551616) →
    SimC Tryd.prog 0 rd (.loop haLp) (haT.at [.i (x.1 : Int), .i (c : Int), .i (x.2 : Int)]) (.exit 0) (haX.at [.i ((x.1 / 2 ^ (c - x.2) : Nat) : Int)]) := by
  refine loop_of_rounds (C := orc0) (L := noLoops) (N := 100) (me := 91) (T := haT) (T' := haX) orc0_ok mixed noLoops_ok (by kernel_rfl) (by kernel_rfl) (X := Nat × Nat)
    (fun x => [.i (x.1 : Int), .i (c : Int), .i (x.2 : Int)]) (fun x => x.2 ≤ c ∧ x.1 < 18446744073709551616) (fun x => c - x.2) (fun x => (.exit 0, [.i ((x.1 / 2 ^ (c - x.2) : Nat) : Int)])) ?_
  rintro ⟨m, i⟩ ⟨hi, hm⟩
  dsimp only at hi hm ⊢
  have h := ha_round rd (m : Int) (c : Int) (i : Int)
  rcases Nat.lt_or_ge i c with hlt | hge
  · rw [decide_eq_true (show (i : Int) < (c : Int) by omega), cond_true, wrI64 (by omega) (by omega), show ((m : Int)).tdiv 2 = ((m / 2 : Nat) : Int) from rfl, show wr .u64 ((m / 2 : Nat) : Int) = ((m / 2 : Nat) : Int) from (by show ((m / 2 : Nat) : Int) % 18446744073709551616 = _; omega)] at h
    refine ⟨_, _, _, h, codesE, .inl ⟨rfl, (m / 2, i + 1), rfl, ⟨by dsimp only; omega, by dsimp only; omega⟩, by dsimp only; omega, ?_⟩⟩
    dsimp only
    rw [show c - i = (c - (i + 1)) + 1 by omega, Nat.pow_succ, Nat.mul_comm, ← Nat.div_div_eq_div_mul]
  · obtain rfl : i = c := by omega
    rw [decide_eq_false (show ¬ (i : Int) < (i : Int) by omega), cond_false] at h
    refine ⟨_, _, _, h, codesE, .inr ⟨by simp, ?_⟩⟩
    rw [Nat.sub_self, Nat.pow_zero, Nat.div_one]
def haC (m c i : Int) : Bool := decide (0 ≤ m ∧ m < 18446744073709551616 ∧ 0 ≤ c ∧ c ≤ 1000 ∧ i = 0)
noncomputable def haTree : List PV → Fin
  | [.i m, .i c, .i i] => .br (haC m c i) (.leaf (.exit 0) (haX.at [.i ((m.toNat / 2 ^ c.toNat : Nat) : Int)])) .no
  | _ => .no
noncomputable def haL : Loops := sums (fun n => match n with | 2 => some (lsumF 0 haT haLp haTree) | _ => none)
theorem haL_ok : loopsOk Tryd.prog haL := by
  intro n g hg
  simp only [haL, sums] at hg
  split at hg
  · cases hg
    refine lsumF_ok (by kernel_rfl) (fun rd ps e1 st1 hq => ?_)
    unfold haTree at hq
    split at hq
    · rename_i m c i
      simp only [Fin.pick] at hq
      cases hc : haC m c i with
      | false => rw [hc] at hq; cases hq
      | true =>
        rw [hc, cond_true] at hq
        cases hq
        unfold haC at hc
        rw [decide_eq_true_eq] at hc
        obtain ⟨h1, h1', h2, h3, rfl⟩ := hc
        have := ha_loop rd c.toNat (by omega) (m.toNat, 0) ⟨Nat.zero_le _, by dsimp only; omega⟩
        dsimp only at this
        rw [show ((m.toNat : Nat) : Int) = m by omega, show ((c.toNat : Nat) : Int) = c by omega, Nat.sub_zero] at this
        exact this
    · cases hq
  · cases hg
theorem has_eval (m c : Int) : evalFn Tryd.prog orc0 haL 100 91 Tryd.f91 [.int .u64 m, .int .i64 c] [] (fun v _ => some v) =
    cond (codesB [(haLp, haLp)]) (bif haC m c 0 then some (.bool (decide ((((m.toNat / 2 ^ c.toNat : Nat) : Int)).tmod 2 = 1))) else none) none := by kernel_rfl
def hasB (m c : Int) : Bool := m.toNat.testBit c.toNat
theorem has_p {m c : Int} (h1 : 0 ≤ m ∧ m < 18446744073709551616) (h2 : 0 ≤ c) (h3 : c ≤ 1000) : FnPure Tryd.prog 91 [.int .u64 m, .int .i64 c] (.bool (hasB m c)) := by
  refine fnPure_of_eval (N := 100) orc0_ok mixed Tryd.func91 (by kernel_rfl) haL_ok ?_ rfl rfl
  have cd : codesB [(haLp, haLp)] = true := by rw [codesB_iff]; intro x hx; simp at hx; rw [hx]
  have hC : haC m c 0 = true := by unfold haC; rw [decide_eq_true_eq]; omega
  rw [has_eval, cd, hC]
  unfold hasB
  rw [Nat.testBit_eq_decide_div_mod_eq, show (((m.toNat / 2 ^ c.toNat : Nat) : Int)).tmod 2 = ((m.toNat / 2 ^ c.toNat % 2 : Nat) : Int) from rfl]
  simp only [cond_true]
  congr 2
  rw [Bool.eq_iff_iff, decide_eq_true_eq, decide_eq_true_eq]
  omega
/-! ### bit -/
noncomputable def biLp : Code := loopOf 3 Tryd.f75
def biT : Tm := ⟨mkS [(0, .int .u8), (3, .int .u64), (4, .int .u8)] 0 14, [], []⟩
def biX : Tm := ⟨mkS [(3, .int .u64)] 0 14, [], []⟩
theorem bi_round (rd : Option Nat) (c m i : Int) : roundT Tryd.prog orc0 noLoops 100 0 rd 75 biLp biT biX [.i c, .i m, .i i] =
    bif decide (i < c) then some (.normal, [.i c, .i (wr .u64 (m + m)), .i (wr .u8 (i + 1))], []) else some (.exit 0, [.i m], []) := by kernel_rfl
theorem bi_loop (rd : Option Nat) (c : Nat) (hc : c ≤ 63) : ∀ i : Nat, i ≤ c →
    SimC Tryd.prog 0 rd (.loop biLp) (biT.at [.i (c : Int), .i ((2 ^ i : Nat) : Int), .i (i : Int)]) (.exit 0) (biX.at [.i ((2 ^ c : Nat) : Int)]) := by
  refine loop_of_rounds (C := orc0) (L := noLoops) (N := 100) (me := 75) (T := biT) (T' := biX) orc0_ok mixed noLoops_ok (by kernel_rfl) (by kernel_rfl) (X := Nat)
    (fun i => [.i (c : Int), .i ((2 ^ i : Nat) : Int), .i (i : Int)]) (fun i => i ≤ c) (fun i => c - i) (fun _ => (.exit 0, [.i ((2 ^ c : Nat) : Int)])) ?_
  intro i hi
  have h := bi_round rd (c : Int) ((2 ^ i : Nat) : Int) (i : Int)
  rcases Nat.lt_or_ge i c with hlt | hge
  · have hp : 2 ^ (i + 1) ≤ 2 ^ 63 := Nat.pow_le_pow_right (by decide) (by omega)
    have hp2 : 2 ^ (i + 1) = 2 ^ i + 2 ^ i := by rw [Nat.pow_succ]; omega
    have e1 : wr .u64 (((2 ^ i : Nat) : Int) + ((2 ^ i : Nat) : Int)) = ((2 ^ (i + 1) : Nat) : Int) := by
      show (((2 ^ i : Nat) : Int) + ((2 ^ i : Nat) : Int)) % 18446744073709551616 = _
      have h63 : (2 : Nat) ^ 63 = 9223372036854775808 := by decide
      rw [h63] at hp
      rw [hp2] at hp ⊢
      generalize 2 ^ i = q at *
      omega
    have e2 : wr .u8 ((i : Int) + 1) = ((i + 1 : Nat) : Int) := by
      show ((i : Int) + 1) % 256 = _
      omega
    rw [decide_eq_true (show (i : Int) < (c : Int) by omega), cond_true, e1, e2] at h
    exact ⟨_, _, _, h, codesE, .inl ⟨rfl, i + 1, rfl, by omega, by omega, rfl⟩⟩
  · obtain rfl : i = c := by omega
    rw [decide_eq_false (show ¬ (i : Int) < (i : Int) by omega), cond_false] at h
    exact ⟨_, _, _, h, codesE, .inr ⟨by simp, rfl⟩⟩
def biC (c m i : Int) : Bool := decide (0 ≤ c ∧ c ≤ 63 ∧ m = 1 ∧ i = 0)
noncomputable def biTree : List PV → Fin
  | [.i c, .i m, .i i] => .br (biC c m i) (.leaf (.exit 0) (biX.at [.i ((2 ^ c.toNat : Nat) : Int)])) .no
  | _ => .no
noncomputable def biL : Loops := sums (fun n => match n with | 3 => some (lsumF 0 biT biLp biTree) | _ => none)
theorem biL_ok : loopsOk Tryd.prog biL := by
  intro n g hg
  simp only [biL, sums] at hg
  split at hg
  · cases hg
    refine lsumF_ok (by kernel_rfl) (fun rd ps e1 st1 hq => ?_)
    unfold biTree at hq
    split at hq
    · rename_i c m i
      simp only [Fin.pick] at hq
      cases hc : biC c m i with
      | false => rw [hc] at hq; cases hq
      | true =>
        rw [hc, cond_true] at hq
        cases hq
        unfold biC at hc
        rw [decide_eq_true_eq] at hc
        obtain ⟨h1, h2, rfl, rfl⟩ := hc
        have := bi_loop rd c.toNat (by omega) 0 (Nat.zero_le _)
        rw [show ((c.toNat : Nat) : Int) = c by omega] at this
        exact this
    · cases hq
  · cases hg
theorem bit_eval (c : Int) : evalFn Tryd.prog orc0 biL 100 75 Tryd.f75 [.int .u8 c] [] (fun v _ => some v) =
    cond (codesB [(biLp, biLp)]) (bif biC c 1 0 then some (.int .u64 ((2 ^ c.toNat : Nat) : Int)) else none) none := by kernel_rfl
theorem bit_p {c : Int} (h1 : 0 ≤ c) (h2 : c ≤ 63) : FnPure Tryd.prog 75 [.int .u8 c] (.int .u64 ((2 ^ c.toNat : Nat) : Int)) := by
  refine fnPure_of_eval (N := 100) orc0_ok mixed Tryd.func75 (by kernel_rfl) biL_ok ?_ rfl rfl
  have cd : codesB [(biLp, biLp)] = true := by rw [codesB_iff]; intro x hx; simp at hx; rw [hx]
  have hC : biC c 1 0 = true := by unfold biC; rw [decide_eq_true_eq]; omega
  rw [bit_eval, cd, hC]; rfl
/-! ### sign -/
def sgB (r : Int) : ByteArray := bif decide (r = 8) then ⟨#[84]⟩ else bif decide (r = 9) then ⟨#[74]⟩ else bif decide (r = 10) then ⟨#[81]⟩ else bif decide (r = 11) then ⟨#[75]⟩ else bif decide (r = 12) then ⟨#[65]⟩ else bytesOf [wr .u8 (wr .i64 (50 + r))]
theorem sign_eval (r : Int) : evalFn Tryd.prog orc0 noLoops 100 74 Tryd.f74 [.int .i64 r] [] (fun v _ => some v) =
    bif decide (r = 8) then some (.str ⟨#[84]⟩) else bif decide (r = 9) then some (.str ⟨#[74]⟩) else bif decide (r = 10) then some (.str ⟨#[81]⟩) else bif decide (r = 11) then some (.str ⟨#[75]⟩) else bif decide (r = 12) then some (.str ⟨#[65]⟩) else some (.str (bytesOf [wr .u8 (wr .i64 (50 + r))])) := by kernel_rfl
theorem sign_p (r : Int) : FnPure Tryd.prog 74 [.int .i64 r] (.str (sgB r)) := by
  refine fnPure_of_eval (N := 100) orc0_ok mixed Tryd.func74 (by kernel_rfl) noLoops_ok ?_ rfl rfl
  rw [sign_eval]
  unfold sgB
  cases decide (r = 8) <;> cases decide (r = 9) <;> cases decide (r = 10) <;> cases decide (r = 11) <;> cases decide (r = 12) <;> rfl
end Go.Proofs.YtpalajfcffdhoaaDoor.N4
