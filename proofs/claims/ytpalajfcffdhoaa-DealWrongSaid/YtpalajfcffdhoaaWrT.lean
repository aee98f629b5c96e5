/- Texts merged: WrT, WrL, WrQ. -/
import Derived.Test.YtpalajfcffdhoaaRnd
import Derived.Test.YtpalajfcffdhoaaEng4
/- Chapter 6: the law DealWrong: its switch, at each literal seat. -/
namespace Go.Proofs.Ytpalajfcffdhoaa
open Go Go.Eng Go.Deal
noncomputable def wrB : Code := blockOf 0 5 Try.f7
def wrT (nn : Bool) : Tm := ⟨mkS [(3, .int .u8), (4, .int .i64), (11, .ptr 1 0), (12, .ptr 2 0), (13, .ptr 3 0), (14, .int .i64), (42, .int .u8)] 0 213, [.rs nn 1 (.ints .u8), .own 25 u64s, .own 25 u64s, .own 25 u64s], []⟩
def wrPs (k n i h : Int) (ls : List Int) (M P B : DQ) : List PV := [.i k, .i n, .i i, .i h, .l ls, .i M.a, .i M.b, .i M.c, .i M.d, .i P.a, .i P.b, .i P.c, .i P.d, .i B.a, .i B.b, .i B.c, .i B.d]
def wC (k : Int) : Int := shlI (wr .u8 (52 + k.tmod 12))
def lowI (x : Int) : Int := bitsI .and .u64 x (wr .u64 (0 - x))
def dropI (x : Int) : Int := bitsI .and .u64 x (wr .u64 (x - 1))
noncomputable def wrF (k n i h : Int) (ls : List Int) (M P : DQ) (B0 B1 B2 B : DQ) : RT := bif decide (h = 0) then bif decide (wr .u8 (52 + k.tmod 12) < 0) then none else some (.normal, wrPs k n i h ls M P B0, []) else
  bif decide (h = 1) then some (.normal, wrPs k n i h ls M P B1, []) else bif decide (h = 2) then some (.normal, wrPs k n i h ls M P B2, []) else some (.normal, wrPs k n i h ls M P B, [])
theorem wr_0 (nn : Bool) (rd : Option Nat) (k n h : Int) (ls : List Int) (M P B : DQ) : roundT Try.prog orcZ7 noLoops 100 1 rd 7 (.block 0 wrB) (wrT nn) (wrT nn) (wrPs k n 0 h ls M P B) =
    wrF k n 0 h ls M P ⟨orI B.a (wC k), B.b, B.c, B.d⟩ ⟨orI B.a B.b, 0, B.c, B.d⟩ ⟨B.a, orI (dropI B.b) (lowI M.a), B.c, B.d⟩ B := by cases nn <;> kernel_rfl
theorem wr_1 (nn : Bool) (rd : Option Nat) (k n h : Int) (ls : List Int) (M P B : DQ) : roundT Try.prog orcZ7 noLoops 100 1 rd 7 (.block 0 wrB) (wrT nn) (wrT nn) (wrPs k n 1 h ls M P B) =
    wrF k n 1 h ls M P ⟨B.a, orI B.b (wC k), B.c, B.d⟩ ⟨B.a, orI B.b B.c, 0, B.d⟩ ⟨B.a, B.b, orI (dropI B.c) (lowI M.b), B.d⟩ B := by cases nn <;> kernel_rfl
theorem wr_2 (nn : Bool) (rd : Option Nat) (k n h : Int) (ls : List Int) (M P B : DQ) : roundT Try.prog orcZ7 noLoops 100 1 rd 7 (.block 0 wrB) (wrT nn) (wrT nn) (wrPs k n 2 h ls M P B) =
    wrF k n 2 h ls M P ⟨B.a, B.b, orI B.c (wC k), B.d⟩ ⟨B.a, B.b, orI B.c B.d, 0⟩ ⟨B.a, B.b, B.c, orI (dropI B.d) (lowI M.c)⟩ B := by cases nn <;> kernel_rfl
theorem wr_3 (nn : Bool) (rd : Option Nat) (k n h : Int) (ls : List Int) (M P B : DQ) : roundT Try.prog orcZ7 noLoops 100 1 rd 7 (.block 0 wrB) (wrT nn) (wrT nn) (wrPs k n 3 h ls M P B) =
    wrF k n 3 h ls M P ⟨B.a, B.b, B.c, orI B.d (wC k)⟩ ⟨0, B.b, B.c, orI B.d B.a⟩ ⟨orI (dropI B.a) (lowI M.d), B.b, B.c, B.d⟩ B := by cases nn <;> kernel_rfl
end Go.Proofs.Ytpalajfcffdhoaa

/- Chapter 6: the law DealWrong: its formula. -/
namespace Go.Proofs.Ytpalajfcffdhoaa
open Go Go.Eng Go.Deal
noncomputable def txD : Loops := decs fun r => match r with | 2 => some true | _ => none
noncomputable def wrLL : FuncId → Loops := fun f => match f with
  | 25 => txD
  | _ => noLoops
theorem wrLL_ok : ∀ f, loopsOk Try.prog (wrLL f) := fun f => by
  unfold wrLL
  split
  · exact decs_ok
  · exact noLoops_ok
noncomputable abbrev orcX (D : D8) (T : PTab) : Oracle := inl Try.prog ftab T wrLL 100 never dom7 (hOrcP nrN (hTab7 D.d)) 20
section
variable (D : D8) (C : Int → Int → Int → DQ → DQ → Bool) (BD : Int → Int → Int → DQ → DQ)
noncomputable def wrTr (nn : Bool) : List PV → Fin
  | [.i k, .i n, .i i, .i h, .l ls, .i m0, .i m1, .i m2, .i m3, .i p0, .i p1, .i p2, .i p3, .i b0, .i b1, .i b2, .i b3] => .br (C k i h ⟨m0, m1, m2, m3⟩ ⟨b0, b1, b2, b3⟩)
      (.leaf .normal ((wrT nn).at (wrPs k n i h ls ⟨m0, m1, m2, m3⟩ ⟨p0, p1, p2, p3⟩ (BD k i h ⟨m0, m1, m2, m3⟩)))) .no
  | _ => .no
noncomputable def wrBB (nn : Bool) : Nat → Nat → Option LoopSum := fun id n => bif Nat.beq id 0 && Nat.beq n 5 then some (lsumF 1 (wrT nn) wrB (wrTr C BD nn)) else none
noncomputable def wr2 (n : Int) (M P B O : DQ) : Option V := bif D.d.U M && D.d.U O then bif D.d.U B then bif D.d.U P then bif decide (D.d.Ie M O = 6) then bif decide (D.Re (foldI minI n [0]) B = 2) then bif decide (D.Re (foldI maxI n [2147483647]) P = 2) then truV else flsV else flsV else flsV else none else none else none
noncomputable def wr1 (n : Int) (M P B : DQ) : Option V := bif D.d.U B then bif D.d.U B then bif D.d.U B && D.d.n.inn 0 0 0 0 then bif D.d.U B && D.d.U M then bif D.d.U P && D.d.U B then bif D.d.U B then bif D.d.U B then bif !D.d.Pb B then
  bif !decide (D.d.Le B = 60) then flsV else bif !decide (D.d.Le B = 60) then flsV else bif !decide (D.d.Ce B (D.d.n.z 0 0 0 0) = 60) then flsV else bif !decide (D.d.Ie B M = 60) then flsV else bif !decide (D.d.Ie P B = 60) then flsV else bif !decide (D.Re 1 B = 60) then flsV else
  bif D.d.U B then bif D.d.Rg B then flsV else bif D.d.U B then bif D.d.Pb B then flsV else wr2 D n M P B (D.d.T 1 M) else none else none else none else none else none else none else none else none else none else none
theorem wrong_eval (nn : Bool) (ls : List Int) (w hw k n : Int) : topFn Try.prog (orcX D (tab8 D)) noLoops 100 (wrBB C BD nn) 7 Try.f7 [.gs 0, .int .u64 w, .int .u8 hw, .int .u8 k, .int .i64 n] [.rs nn 1 (.ints .u8 ls)] (fun v _ => some v) =
    bif D.d.ok ls then bif D.d.ok ls then cond (codesB [(wrB, wrB)]) (bif C k ((wr .i64 k).tmod 4) (hw.tmod 3) (D.d.M ls) (D.d.M ls) then wr1 D n (D.d.M ls) (D.d.P ls w) (BD k ((wr .i64 k).tmod 4) (hw.tmod 3) (D.d.M ls)) else none) none else none else none := by cases nn <;> kernel_rfl
end
end Go.Proofs.Ytpalajfcffdhoaa

/- Chapter 6: the law DealWrong answers true. -/
namespace Go.Proofs.Ytpalajfcffdhoaa
open Go Go.Eng Go.Deal
def bdX (h : Int) (b0 b1 b2 b : DQ) : DQ := bif decide (h = 0) then b0 else bif decide (h = 1) then b1 else bif decide (h = 2) then b2 else b
def bd0 (k h : Int) (M : DQ) : DQ := bdX h ⟨orI M.a (wC k), M.b, M.c, M.d⟩ ⟨orI M.a M.b, 0, M.c, M.d⟩ ⟨M.a, orI (dropI M.b) (lowI M.a), M.c, M.d⟩ M
def bd1 (k h : Int) (M : DQ) : DQ := bdX h ⟨M.a, orI M.b (wC k), M.c, M.d⟩ ⟨M.a, orI M.b M.c, 0, M.d⟩ ⟨M.a, M.b, orI (dropI M.c) (lowI M.b), M.d⟩ M
def bd2 (k h : Int) (M : DQ) : DQ := bdX h ⟨M.a, M.b, orI M.c (wC k), M.d⟩ ⟨M.a, M.b, orI M.c M.d, 0⟩ ⟨M.a, M.b, M.c, orI (dropI M.d) (lowI M.c)⟩ M
def bd3 (k h : Int) (M : DQ) : DQ := bdX h ⟨M.a, M.b, M.c, orI M.d (wC k)⟩ ⟨0, M.b, M.c, orI M.d M.a⟩ ⟨orI (dropI M.a) (lowI M.d), M.b, M.c, M.d⟩ M
def bd6 (k i h : Int) (M : DQ) : DQ := bif decide (i = 0) then bd0 k h M else bif decide (i = 1) then bd1 k h M else bif decide (i = 2) then bd2 k h M else bd3 k h M
noncomputable def cw6 (k i _h : Int) (M B : DQ) : Bool := pB (B = M ∧ 0 ≤ k ∧ (i = 0 ∨ i = 1 ∨ i = 2 ∨ i = 3))
theorem wrF_is {k n i h : Int} {ls : List Int} {M P B0 B1 B2 B : DQ} (hk : 0 ≤ k) : wrF k n i h ls M P B0 B1 B2 B = some (.normal, wrPs k n i h ls M P (bdX h B0 B1 B2 B), []) := by
  unfold wrF bdX
  have e : ¬ wr .u8 (52 + k.tmod 12) < 0 := by
    rw [Int.tmod_eq_emod_of_nonneg hk]
    simp only [wr]; omega
  rw [decide_eq_false e]
  cases decide (h = 0) with
  | true => rfl
  | false => cases decide (h = 1) with
    | true => rfl
    | false => cases decide (h = 2) <;> rfl
theorem wrBB_ok (nn : Bool) : ∀ id n f, wrBB cw6 bd6 nn id n = some f → CutOk Try.prog id f := by
  intro id n f hf
  unfold wrBB at hf
  cases hi : Nat.beq id 0 && Nat.beq n 5 with
  | false => rw [hi] at hf; cases hf
  | true =>
    rw [hi, cond_true] at hf
    rw [Bool.and_eq_true] at hi
    have h0 := Nat.eq_of_beq_eq_true hi.1
    subst h0
    cases hf
    refine lsumB_ok (by cases nn <;> kernel_rfl) (fun rd ps e1 s1 h => ?_)
    unfold wrTr at h
    split at h
    · rename_i k n i h' ls m0 m1 m2 m3 p0 p1 p2 p3 b0 b1 b2 b3
      simp only [Fin.pick] at h
      cases hc : cw6 k i h' ⟨m0, m1, m2, m3⟩ ⟨b0, b1, b2, b3⟩ with
      | false => rw [hc] at h; cases h
      | true =>
        rw [hc, cond_true] at h
        unfold cw6 at hc
        rw [pB_iff] at hc
        obtain ⟨hB, hk, hi4⟩ := hc
        have main : ∀ {x : DQ}, roundT Try.prog orcZ7 noLoops 100 1 rd 7 (.block 0 wrB) (wrT nn) (wrT nn) (wrPs k n i h' ls ⟨m0, m1, m2, m3⟩ ⟨p0, p1, p2, p3⟩ ⟨b0, b1, b2, b3⟩) = some (.normal, wrPs k n i h' ls ⟨m0, m1, m2, m3⟩ ⟨p0, p1, p2, p3⟩ x, []) →
            SimC Try.prog 1 rd (.block 0 wrB) ((wrT nn).at (wrPs k n i h' ls ⟨m0, m1, m2, m3⟩ ⟨p0, p1, p2, p3⟩ ⟨b0, b1, b2, b3⟩)) .normal ((wrT nn).at (wrPs k n i h' ls ⟨m0, m1, m2, m3⟩ ⟨p0, p1, p2, p3⟩ x)) := fun {x} hx =>
          (roundT_sim (orcN_ok emptyTab_ok plainL_ok) mixed noLoops_ok (by cases nn <;> kernel_rfl) (by cases nn <;> kernel_rfl) hx codesNil).1 rfl
        cases h
        rcases hi4 with rfl | rfl | rfl | rfl
        · refine main ?_
          rw [wr_0, wrF_is hk, hB]; rfl
        · refine main ?_
          rw [wr_1, wrF_is hk, hB]; rfl
        · refine main ?_
          rw [wr_2, wrF_is hk, hB]; rfl
        · refine main ?_
          rw [wr_3, wrF_is hk, hB]; rfl
    · cases h
/-! ### what is no partial deal -/
structure Bad (B : DQ) : Prop where
  u : in4 B.a B.b B.c B.d = true
  p : parB B.a B.b B.c B.d = false
theorem Bad.of {a b c d : Nat} (ha : a < 18446744073709551616) (hb : b < 18446744073709551616) (hc : c < 18446744073709551616) (hd : d < 18446744073709551616) (h : ¬ PartD a b c d) : Bad (DQ.n a b c d) := by
  have e : ∀ x : Nat, x < 18446744073709551616 → in64 (x : Int) = true := fun x hx => in64_iff.2 ⟨by omega, by omega⟩
  refine ⟨?_, Bool.eq_false_iff.2 (fun q => h (parB_iff.1 q))⟩
  show in4 (a : Int) (b : Int) (c : Int) (d : Int) = true
  unfold in4
  rw [e a ha, e b hb, e c hc, e d hd]
  rfl
theorem odd_part : ∀ m : Nat, 0 < m → ∃ t k, m = 2 ^ t * (2 * k + 1) := by
  intro m
  induction m using Nat.strongRecOn with
  | _ m ih =>
    intro h
    by_cases ho : m % 2 = 1
    · exact ⟨0, m / 2, by rw [Nat.pow_zero, Nat.one_mul]; omega⟩
    · obtain ⟨t, k, e⟩ := ih (m / 2) (by omega) (by omega)
      exact ⟨t + 1, k, by rw [Nat.pow_succ, Nat.mul_assoc, Nat.mul_comm 2, ← Nat.mul_assoc, ← e]; omega⟩
theorem low_card {m : Nat} (h0 : 0 < m) (h : m < 2 ^ 52) : ∃ c : Nat, lowI (m : Int) = (c : Int) ∧ Sub c m ∧ c < 2 ^ 52 ∧ ∃ t, c.testBit t = true := by
  have h64 := lt64 h
  have e : wr .u64 (0 - (m : Int)) = ((18446744073709551616 - m : Nat) : Int) := by simp only [wr]; omega
  refine ⟨m &&& (18446744073709551616 - m), ?_, fun i hi => ?_, Nat.lt_of_le_of_lt Nat.and_le_left h, ?_⟩
  · unfold lowI
    rw [e, and_nat h64 (by omega)]
  · rw [Nat.testBit_and, Bool.and_eq_true] at hi
    exact hi.1
  · obtain ⟨t, k, hm⟩ := odd_part m h0
    have ht : t < 64 := by
      rcases Nat.lt_or_ge t 64 with h' | h'
      · exact h'
      · have h1 : 2 ^ 64 ≤ 2 ^ t := Nat.pow_le_pow_right (by decide) h'
        have h2 : 2 ^ t * 1 ≤ 2 ^ t * (2 * k + 1) := Nat.mul_le_mul_left _ (by omega)
        omega
    have hp : 2 ^ 64 = 2 ^ t * 2 ^ (64 - t) := by rw [← Nat.pow_add]; congr 1; omega
    have heven : 2 ^ (64 - t) = 2 * 2 ^ (63 - t) := by rw [show 64 - t = (63 - t) + 1 by omega, Nat.pow_succ, Nat.mul_comm]
    have hb : ∀ j : Nat, (2 ^ t * (2 * j + 1)).testBit t = true := fun j => by rw [Nat.testBit_two_pow_mul]; simp
    refine ⟨t, ?_⟩
    rw [Nat.testBit_and]
    have e1 : m.testBit t = true := by rw [hm]; exact hb k
    have hlt : 2 * k + 1 < 2 ^ (64 - t) := by
      rcases Nat.lt_or_ge (2 * k + 1) (2 ^ (64 - t)) with h' | h'
      · exact h'
      · have := Nat.mul_le_mul_left (2 ^ t) h'
        rw [← hp, ← hm] at this
        omega
    have e2 : 18446744073709551616 - m = 2 ^ t * (2 * (2 ^ (63 - t) - k - 1) + 1) := by
      rw [show 18446744073709551616 = 2 ^ 64 by decide, hp, hm, ← Nat.mul_sub]
      congr 1
      omega
    rw [e1, e2, hb]; rfl
theorem drop_n {m : Nat} (h0 : 0 < m) (h : m < 2 ^ 52) : ∃ c : Nat, dropI (m : Int) = (c : Int) ∧ c < 2 ^ 52 := by
  have h64 := lt64 h
  have e : wr .u64 ((m : Int) - 1) = ((m - 1 : Nat) : Int) := by simp only [wr]; omega
  refine ⟨m &&& (m - 1), ?_, Nat.lt_of_le_of_lt Nat.and_le_left h⟩
  unfold dropI
  rw [e, and_nat h64 (by omega)]
theorem wC_n {k : Int} (hk : 0 ≤ k) : ∃ q : Nat, 52 ≤ q ∧ q < 64 ∧ wC k = ((2 ^ q : Nat) : Int) := by
  refine ⟨(52 + k % 12).toNat, by omega, by omega, ?_⟩
  unfold wC
  rw [Int.tmod_eq_emod_of_nonneg hk, show wr .u8 (52 + k % 12) = (((52 + k % 12).toNat : Nat) : Int) by simp only [wr]; omega, shlI_n (by omega)]
theorem pos13 {m : Nat} (h : cnt m 52 = 13) : 0 < m := by
  rcases Nat.eq_zero_or_pos m with h' | h'
  · subst h'; rw [cnt_zero] at h; omega
  · exact h'
theorem high {m k : Nat} (h1 : 52 ≤ k) : ¬ (m ||| 2 ^ k) < 2 ^ 52 := fun h => by
  have := bit_lt (i := k) h h1
  rw [tb_put] at this; cases this
theorem two13 {a b : Nat} (h : Dis a b) (ha : cnt a 52 = 13) (hb : cnt b 52 = 13) : ¬ cnt (a ||| b) 52 ≤ 13 := by
  rw [cnt_or h]; omega
theorem twice {x c m : Nat} {t : Nat} (hs : Sub c m) (ht : c.testBit t = true) : ¬ Dis m (x ||| c) := fun h => h t (hs t ht) (by rw [Nat.testBit_or, ht, Bool.or_true])
end Go.Proofs.Ytpalajfcffdhoaa
