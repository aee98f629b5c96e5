/- Texts merged: E10, CW0, CWrite. -/
import Derived.Test.YtpalajfcffdhoaaARP
import Derived.Test.YtpalajfcffdhoaaCRHas
/- Chapter 6, the reference: product, Ways: their contracts. -/
namespace Go.Proofs.Ytpalajfcffdhoaa
open Go Go.Eng Go.Deal
theorem hTabR_ok : HTabOk Try.prog (hTabR n6) := by
  refine addH_ok ?_ emptyH_ok
  intro args h c v nb hq hc
  unfold gMul at hq
  split at hq
  · cases hq
    rw [Bool.and_eq_true] at hc
    exact ⟨.of Try.func100 (by kernel_rfl), by rw [List.append_nil]; exact N2.rmul_fn hc.1 hc.2⟩
  · cases hq
theorem orcR_ok {T : PTab} (hT : PTabOk Try.prog T) : OracleOk Try.prog (orcR n6 T) := inl_ok (hOrcP_ok hTabR_ok) ftab_ok hT plainL_ok mixed 20
theorem prod_p {a b c d e f g h : Int} (hx : n6.inn a b c d = true) (hy : n6.inn e f g h = true) : FnPure Try.prog 90 (n44 a b c d e f g h) (n6.nW (n6.mul (n6.z a b c d) (n6.z e f g h))) := by
  refine fnPure_of_eval (N := 100) (orcR_ok emptyTab_ok) mixed Try.func90 (by kernel_rfl) noLoops_ok ?_ rfl rfl
  rw [prod_eval, hx, hy]; rfl
def ofK (n : Int) : Bool := decide (-9223372036854775808 ≤ n ∧ n < 9223372036854775808)
noncomputable def eW : EW := ⟨n6, in4, lfI, leI, maI, bcK, bcI, ofK, N2.ofZ, N2.ofE⟩
theorem tabW6_ok : PTabOk Try.prog (tabW6 eW) := by
  refine addTab_ok ?_ (addTab_ok ?_ (addTab_ok ?_ (addTab_ok ?_ (addTab_ok ?_ emptyTab_ok))))
  · intro args c v h hc
    unfold wLf at h; split at h
    · cases h; exact rleft_p hc
    · cases h
  · intro args c v h hc
    unfold wMa at h; split at h
    · cases h; exact many_p hc
    · cases h
  · intro args c v h hc
    unfold wCh at h; split at h
    · cases h; exact choose_p hc
    · cases h
  · intro args c v h hc
    unfold wOf at h; split at h
    · cases h
      have hc : ofK _ = true := hc
      unfold ofK at hc
      rw [decide_eq_true_eq] at hc
      exact N2.rof_p hc
    · cases h
  · intro args c v h hc
    unfold gTwo at h; split at h
    · cases h
      rw [Bool.and_eq_true] at hc
      exact prod_p hc.1 hc.2
    · cases h
theorem orcW6_ok : OracleOk Try.prog (orcW6 eW) := orcN_ok tabW6_ok plainL_ok
theorem bcI_n (n k : Nat) : bcI (n : Int) (k : Int) = ((bc n k : Nat) : Int) := by unfold bcI; rw [Int.toNat_natCast, Int.toNat_natCast]
theorem bcK_n {n : Nat} (k : Nat) (hn : n ≤ 52) : bcK (n : Int) (k : Int) = true := by unfold bcK; rw [decide_eq_true_eq]; omega
theorem ofK_n {n : Nat} (hn : n < 4503599627370497) : ofK (n : Int) = true := by unfold ofK; rw [decide_eq_true_eq]; omega
theorem ofZ_n (n : Nat) : N2.ofZ (n : Int) = (n : Int) := by unfold N2.ofZ; rw [decide_eq_false (by omega)]; rfl
theorem eWck (n k : Int) : eW.ck n k = bcK n k := rfl
theorem eWch (n k : Int) : eW.ch n k = bcI n k := rfl
theorem eWok (n : Int) : eW.ofk n = ofK n := rfl
theorem eWof (n : Int) : eW.of n = N2.ofZ n := rfl
theorem eWn : eW.n = n6 := rfl
theorem eWma (n : Int) : eW.ma n = maI n := rfl
theorem eWu4 (a b c d : Int) : eW.u4 a b c d = in4 a b c d := rfl
theorem eWle (a b c d : Int) : eW.le a b c d = leI a b c d := rfl
theorem eWlf (a b c d : Int) : eW.lf a b c d = lfI a b c d := rfl
theorem eWu (x : Int) : eW.n.u x = in64 x := rfl
theorem wyS_n {n out l : Nat} (hn : n ≤ 52) (hl : l ≤ n) (ho : out < 340282366920938463463374607431768211456) (hp : out * bc n l < 340282366920938463463374607431768211456) (K : Int → Int → Option V) : wyS eW (n : Int) (out : Int) (l : Int) K = K ((n - l : Nat) : Int) ((out * bc n l : Nat) : Int) := by
  have b1 := bc_52 (n := n) (k := l) hn
  unfold wyS
  rw [eWck, bcK_n l hn, cond_true, eWch, bcI_n, eWok, ofK_n b1, cond_true, eWof, ofZ_n, eWn, ii, ii, Bool.and_true, cond_true, qq ho, qq (Nat.lt_trans b1 (by decide)), mulq hp, wr64 (by omega) (by omega), show (n : Int) - (l : Int) = ((n - l : Nat) : Int) by omega]
theorem wlk_n {x : Nat} (h : cnt x 52 ≤ 13) : wlk eW (x : Int) = ((lk x : Nat) : Int) := by
  unfold wlk lk
  rw [eWma, maI_n, wr64 (by omega) (by omega)]; omega
theorem rways_p {a b c d : Int} (h : in4 a b c d = true) : FnPure Try.prog 42 [q4 a b c d] (.tuple [n6.nW (wyI a b c d), .int .i64 (leI a b c d)]) := by
  have h4 := h
  obtain ⟨a, b, c, d, rfl, rfl, rfl, rfl, ha, hb, hc, hd⟩ := in4_nat h
  refine fnPure_of_eval (N := 100) orcW6_ok mixed Try.func42 (by kernel_rfl) noLoops_ok ?_ rfl rfl
  refine (rways_eval eW _ _ _ _).trans ?_
  rw [eWu4, h4, cond_true, eWle, eWlf]
  unfold wyI leI lfI
  cases hp : parB (a : Int) b c d with
  | false => rfl
  | true =>
    rw [cond_true, cond_true, cond_true]
    have P := parB_iff.1 hp
    have u : ∀ {x : Nat}, x < 18446744073709551616 → eW.n.u (x : Int) = true := fun hx => by rw [eWu]; exact in64_iff.2 ⟨by omega, by omega⟩
    have hlf : lf a b c d < 18446744073709551616 := Nat.lt_trans P.lf_lt (by decide)
    rw [Int.toNat_natCast, Int.toNat_natCast, Int.toNat_natCast, Int.toNat_natCast]
    have z : (!decide ((0 : Int) = 0)) = false := by decide
    rw [z, cond_false]
    unfold wyF
    rw [u hlf, u ha, u hb, u hc, u hd, cond_true, cond_true, cond_true, cond_true, cond_true, eWok, show ofK 1 = true from ofK_n (n := 1) (by decide), cond_true, eWof, show N2.ofZ 1 = ((1 : Nat) : Int) from ofZ_n 1, eWma, maI_n, P.lf_cnt, wlk_n P.ca, wlk_n P.cb, wlk_n P.cc, wlk_n P.cd]
    have q1 : lk a ≤ 13 := by unfold lk; omega
    have q2 : lk b ≤ 13 := by unfold lk; omega
    have q3 : lk c ≤ 13 := by unfold lk; omega
    have q4 : lk d ≤ 13 := by unfold lk; omega
    have es : sm (lks a b c d) = lk a + (lk b + (lk c + (lk d + 0))) := rfl
    have m1 : 1 * bc (sm (lks a b c d)) (lk a) ≤ 2 ^ 52 := by rw [Nat.one_mul]; exact Nat.le_trans (bc_le _ _) (Nat.pow_le_pow_right (by decide) (by omega))
    have m2 : 1 * bc (sm (lks a b c d)) (lk a) * bc (sm (lks a b c d) - lk a) (lk b) ≤ 2 ^ 91 := Nat.le_trans (Nat.mul_le_mul m1 (Nat.le_trans (bc_le _ _) (Nat.pow_le_pow_right (show 2 > 0 by decide) (show sm (lks a b c d) - lk a ≤ 39 by omega)))) (by decide)
    have m4 : 1 * bc (sm (lks a b c d)) (lk a) * bc (sm (lks a b c d) - lk a) (lk b) * bc (sm (lks a b c d) - lk a - lk b) (lk c) ≤ 2 ^ 117 := Nat.le_trans (Nat.mul_le_mul m2 (Nat.le_trans (bc_le _ _) (Nat.pow_le_pow_right (show 2 > 0 by decide) (show sm (lks a b c d) - lk a - lk b ≤ 26 by omega)))) (by decide)
    have last : sm (lks a b c d) - lk a - lk b - lk c = lk d := by omega
    have k1 : (2 : Nat) ^ 52 < 340282366920938463463374607431768211456 := by decide
    have k2 : (2 : Nat) ^ 91 < 340282366920938463463374607431768211456 := by decide
    have k3 : (2 : Nat) ^ 117 < 340282366920938463463374607431768211456 := by decide
    have f1 := Nat.lt_of_le_of_lt m1 k1
    have f2 := Nat.lt_of_le_of_lt m2 k2
    have f3 := Nat.lt_of_le_of_lt m4 k3
    rw [wyS_n (by omega) (by omega) (by decide) f1, wyS_n (by omega) (by omega) f1 f2, wyS_n (by omega) (by omega) f2 f3, last]
    rw [wyS_n (n := lk d) (by omega) (Nat.le_refl _) f3 (by rw [bc_self, Nat.mul_one]; exact f3)]
    have r : ((1 * bc (sm (lks a b c d)) (lk a) * bc (sm (lks a b c d) - lk a) (lk b) * bc (sm (lks a b c d) - lk a - lk b) (lk c) * bc (lk d) (lk d) : Nat) : Int) = o0 (a : Int) b c d := by
      unfold o0
      rw [Int.toNat_natCast, Int.toNat_natCast, Int.toNat_natCast, Int.toNat_natCast]
      have x1 : sm (lks a b c d) - lk a = lk b + sm [lk c, lk d] := by rw [es]; show _ = lk b + (lk c + (lk d + 0)); omega
      have x2 : sm (lks a b c d) - lk a - lk b = lk c + sm [lk d] := by rw [es]; show _ = lk c + (lk d + 0); omega
      rw [x2, x1]
      have x3 : wy (lks a b c d) = bc (lk a + sm [lk b, lk c, lk d]) (lk a) * (bc (lk b + sm [lk c, lk d]) (lk b) * (bc (lk c + sm [lk d]) (lk c) * (bc (lk d + sm []) (lk d) * 1))) := rfl
      have x4 : sm (lks a b c d) = lk a + sm [lk b, lk c, lk d] := rfl
      rw [x3, x4, show lk d + sm [] = lk d from rfl, Nat.one_mul, Nat.mul_one, Nat.mul_assoc, Nat.mul_assoc]
    rw [r, eWn]
end Go.Proofs.Ytpalajfcffdhoaa

/- Chapter 4 under chapter 6's numbers: what Write's texts begin with. -/
namespace Go.Proofs.Ytpalajfcffdhoaa.N4
open Go Go.Eng
def o : Option TV := none
def rU : List UInt8 := [50, 51, 52, 53, 54, 55, 56, 57, 84, 74, 81, 75, 65]
theorem wr8 {x : Int} (h1 : 0 ≤ x) (h2 : x < 256) : wr .u8 x = x := by
  simp only [wr]; omega
theorem wr64 {x : Int} (h1 : -9223372036854775808 ≤ x) (h2 : x < 9223372036854775808) : wr .i64 x = x := by
  simp only [wr, sgn]
  cases h : decide (9223372036854775808 ≤ x % 18446744073709551616) with
  | true => simp only [decide_eq_true_eq] at h; simp only [cond_true]; omega
  | false => simp only [decide_eq_false_iff_not] at h; simp only [cond_false]; omega
theorem wrU {n : Nat} (h : n < 18446744073709551616) : wr .u64 (n : Int) = n := by
  simp only [wr]; omega
theorem bv_of (n : Nat) (h : n < 18446744073709551616) : (BitVec.ofInt 64 (n : Int)).toNat = n := by
  simp only [BitVec.toNat_ofInt]; omega
theorem andNot_nat {a b : Nat} (ha : a < 18446744073709551616) (hb : b < 18446744073709551616) :
    ∃ c : Nat, bitsI .andNot .u64 (a : Int) (b : Int) = (c : Int) ∧ ∀ i, c.testBit i = (a.testBit i && !b.testBit i) := by
  unfold bitsI
  refine ⟨(BitVec.ofInt 64 (a : Int) &&& ~~~(BitVec.ofInt 64 (b : Int))).toNat, ?_, fun i => ?_⟩
  · show wr .u64 (((BitVec.ofInt 64 (a : Int) &&& ~~~(BitVec.ofInt 64 (b : Int))).toNat : Nat) : Int) = _
    exact wrU (BitVec.isLt _)
  · rw [BitVec.toNat_and, Nat.testBit_and, bv_of a ha]
    by_cases hi : i < 64
    · congr 1
      rw [BitVec.testBit_toNat, BitVec.getLsbD_not, ← BitVec.testBit_toNat, bv_of b hb]
      simp [hi]
    · have hp : 18446744073709551616 ≤ 2 ^ i := Nat.le_trans (show 18446744073709551616 ≤ 2 ^ 64 by decide) (Nat.pow_le_pow_right (show 0 < 2 by decide) (show 64 ≤ i by omega))
      rw [Nat.testBit_lt_two_pow (x := a) (i := i) (Nat.lt_of_lt_of_le ha hp)]
      simp
theorem big_spec {r : Nat} (hr : r < 4503599627370496) (h0 : r ≠ 0) : 1 ≤ Lib.bitLen r ∧ Lib.bitLen r ≤ 52 ∧ r.testBit (Lib.bitLen r - 1) = true ∧ ∀ i, Lib.bitLen r ≤ i → r.testBit i = false := by
  obtain ⟨b1, b2, b3⟩ := Lib.bitLenAux_bounds 64 r (by omega) h0
  have e : Lib.bitLen r = Lib.bitLenAux 64 r := rfl
  rw [← e] at b1 b2 b3
  have hle := Lib.bitLen_le r 52 (by omega) hr
  generalize Lib.bitLen r = n at *
  obtain ⟨k, rfl⟩ : ∃ k, n = k + 1 := ⟨n - 1, by omega⟩
  simp only [Nat.add_sub_cancel] at b2 ⊢
  refine ⟨by omega, hle, ?_, fun i hi => Nat.testBit_lt_two_pow (Nat.lt_of_lt_of_le b3 (Nat.pow_le_pow_right (by decide) hi))⟩
  rw [Nat.testBit_eq_decide_div_mod_eq, decide_eq_true_eq]
  have h1 : 1 ≤ r / 2 ^ k := (Nat.le_div_iff_mul_le (Nat.two_pow_pos k)).2 (by omega)
  have h2 : r / 2 ^ k < 2 := (Nat.div_lt_iff_lt_mul (Nat.two_pow_pos k)).2 (by rw [Nat.pow_succ] at b3; omega)
  omega
theorem clear_nat {r t : Nat} (hr : r < 4503599627370496) (ht : t < 52) : ∃ r' : Nat, bitsI .andNot .u64 (r : Int) (wr .u64 (1 * 2 ^ shAmt .u64 (t : Int))) = (r' : Int) ∧ r' < 4503599627370496 ∧ ∀ i, r'.testBit i = (r.testBit i && !decide (t = i)) := by
  have sh : shAmt .u64 (t : Int) = t := by
    unfold shAmt
    show min ((t : Int)).toNat 64 = t
    omega
  have hp : 2 ^ t < 18446744073709551616 := Nat.lt_of_lt_of_le (Nat.pow_lt_pow_right (by decide) ht) (show 2 ^ 52 ≤ 18446744073709551616 by decide)
  have e : wr .u64 (1 * 2 ^ shAmt .u64 (t : Int)) = ((2 ^ t : Nat) : Int) := by
    rw [sh, Int.one_mul, show (2 : Int) ^ t = ((2 ^ t : Nat) : Int) by rw [Int.natCast_pow]; rfl, wrU hp]
  rw [e]
  obtain ⟨r', h1, h2⟩ := andNot_nat (a := r) (b := 2 ^ t) (by omega) hp
  have hb : ∀ i, r'.testBit i = (r.testBit i && !decide (t = i)) := fun i => by rw [h2 i, Nat.testBit_two_pow]
  refine ⟨r', h1, ?_, hb⟩
  have : r' < 2 ^ 52 := Nat.lt_pow_two_of_testBit r' fun i hi => by
    rw [hb i, Nat.testBit_lt_two_pow (Nat.lt_of_lt_of_le hr (Nat.le_trans (show 4503599627370496 ≤ 2 ^ 52 by decide) (Nat.pow_le_pow_right (show 0 < 2 by decide) hi)))]
    rfl
  exact this
theorem suit_nat {t : Nat} (ht : t < 52) : suitI (t : Int) = ((t / 13 : Nat) : Int) := by
  unfold suitI
  rw [decide_eq_true (show (t : Int) < 52 by omega), cond_true, Int.tdiv_eq_ediv_of_nonneg (by omega), wr8 (by omega) (by omega)]
  rfl
theorem rank_nat {t : Nat} (ht : t < 52) : rankI (t : Int) = ((t % 13 : Nat) : Int) := by
  unfold rankI
  rw [decide_eq_true (show (t : Int) < 52 by omega), cond_true, Int.tmod_eq_emod_of_nonneg (by omega)]
  rfl
def gLn4 : List V → Option (Bool × V)
  | [.int .u64 x] => some (decide (0 ≤ x ∧ x ≤ 18446744073709551615), .int .i64 (lenI x))
  | _ => none
def tabO : PTab := addK (addTab 86 gLn4 emptyTab)
theorem tabO_ok : PTabOk Try.prog tabO := by
  refine addK_ok (addTab_ok ?_ emptyTab_ok)
  intro args c v h hc
  unfold gLn4 at h
  split at h
  · rename_i x
    cases h
    rw [decide_eq_true_eq] at hc
    exact tabN_ok (f := 86) (args := [.int .u64 x]) (c := in64 x) (v := .int .i64 (lenI x)) rfl (in64_iff.2 ⟨by omega, by omega⟩)
  · cases h
noncomputable abbrev orcO : Oracle := inl Try.prog ftab tabO plainL 100 never never (oracleOf emptyTab) 20
theorem orcO_ok : OracleOk Try.prog orcO := inl_ok (oracleOf_ok emptyTab_ok) ftab_ok tabO_ok plainL_ok mixed 20
def hTabJ : HTab := addH 52 gJoin emptyH
theorem hTabJ_ok : HTabOk Try.prog hTabJ := by
  refine addH_ok ?_ emptyH_ok
  intro args h c v nb hq hc
  unfold gJoin at hq
  split at hq
  · cases hq
    simp only [Bool.and_eq_true, decide_eq_true_eq] at hc
    exact ⟨.of Try.func52 (by kernel_rfl), by rw [List.append_nil]; exact join_fn Try.strings_Join Try.strings_Join_none hc.1 hc.2⟩
  · cases hq
noncomputable abbrev orcS (T : PTab) (LL : FuncId → Loops) : Oracle := inl Try.prog ftab T LL 100 never (fun f => Nat.beq f 52) (hOrcP nrN hTabJ) 20
theorem orcS_ok {T : PTab} (hT : PTabOk Try.prog T) {LL : FuncId → Loops} (hL : ∀ f, loopsOk Try.prog (LL f)) : OracleOk Try.prog (orcS T LL) := inl_ok (hOrcP_ok hTabJ_ok) ftab_ok hT hL mixed 20
end Go.Proofs.Ytpalajfcffdhoaa.N4

/- Chapter 4: what Write does in one round. -/
namespace Go.Proofs.Ytpalajfcffdhoaa.N4
open Go Go.Eng
noncomputable def wrA : Code := rangeA 6 Try.f51
noncomputable def wrB : Code := rangeB 6 Try.f51
noncomputable def wrLp : Code := loopOf 1 Try.f93
noncomputable def wrLB : TB := .loopB false 51 [o, o, o, o, some (.ptr 0 0), o, o, o, o, o, o, o, o, o, o, o, o, o, o, o, o, o, o, o, o, o] [10] wrA wrB 2
def wrS : TS := mkS [(0, .yield 3), (1, .ptr 1 0), (3, .int .u64)] 0 20
noncomputable def wrT : Tm := ⟨wrS, [.own 88 .strs, .own 23 (.vs [.int .u64]), .defs, wrLB], []⟩
def rkS : ByteArray := ⟨⟨rU⟩⟩
def wrC (r : Int) : Int := wr .i64 (lenI r - 1)
def wrI (c : Int) : Int := wr .u8 (3 - suitI (wr .u8 c))
def wrK (c : Int) : Int := rankI (wr .u8 c)
def wrX (c : Int) : ByteArray := extS ⟨⟨[50, 51, 52, 53, 54, 55, 56, 57, 84, 74, 81, 75, 65]⟩⟩ (wrK c).toNat (wr .u8 (wrK c + 1)).toNat
noncomputable def wrN (r c i k : Int) (ps : List ByteArray) (m : Int) (x : ByteArray) : RT := bif !decide (r = 0) then bif decide (0 ≤ r ∧ r ≤ 18446744073709551615) then bif decide (0 ≤ i ∧ i < 4) then
    match ps[i.toNat]? with
    | some v => bif decide (0 ≤ k ∧ k ≤ wr .u8 (k + 1) ∧ wr .u8 (k + 1) ≤ 13) then bif decide (v.data.toList.length + x.data.toList.length ≤ 9223372036854775807) then bif decide (0 ≤ i ∧ i < 4) then bif decide (i.toNat < ps.length) then
        bif decide (c < 0) then none else some (.normal, [.i (bitsI .andNot .u64 r (wr .u64 (1 * 2 ^ shAmt .u64 c))), .ss (ps.set i.toNat (catS v x)), .i m], [(wrA, wrA), (wrB, wrB)])
      else none else none else none else none
    | none => none
  else none else none else some (.exit 0, [.i r, .ss ps, .i m], [(wrA, wrA), (wrB, wrB)])
theorem wr_round (rd : Option Nat) (r m : Int) (ps : List ByteArray) : roundT Try.prog orcO noLoops 100 4 rd 93 wrLp wrT wrT [.i r, .ss ps, .i m] = wrN r (wrC r) (wrI (wrC r)) (wrK (wrC r)) ps m (wrX (wrC r)) := by kernel_rfl
end Go.Proofs.Ytpalajfcffdhoaa.N4
