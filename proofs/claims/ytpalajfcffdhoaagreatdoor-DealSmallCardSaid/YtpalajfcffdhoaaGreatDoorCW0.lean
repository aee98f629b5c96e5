/- Texts merged: CW0, CWrite, CWrite2. -/
import Derived.Test.YtpalajfcffdhoaaGreatDoorCBase
import Derived.Test.YtpalajfcffdhoaaGreatDoorARMul
/- Chapter 4 under chapter 6's numbers: what Write's texts begin with. -/
namespace Go.Proofs.YtpalajfcffdhoaaGreatDoor.N4
open Go Go.Eng
def o : Option TV := none
def rU : List UInt8 := [50, 51, 52, 53, 54, 55, 56, 57, 84, 74, 81, 75, 65]
theorem wr8 {x : Int} (h1 : 0 ≤ x) (h2 : x < 256) : wr .u8 x = x := by
  simp only [wr]; omega
theorem wr64 {x : Int} (h1 : -9223372036854775808 ≤ x) (h2 : x < 9223372036854775808) : wr .i64 x = x := by
  simp only [wr, sgn]
  cases h : decide (9223372036854775808 ≤ x % 18446744073709551616) with
  | true => simp only [decide_eq_true_eq] at h; simp only [cond_true]; omega
  | false => simp only [decide_eq_false_iff_not] at h; simp only [cond_false]; omega
theorem wrU {n : Nat} (h : n < 18446744073709551616) : wr .u64 (n : Int) = n := by
  simp only [wr]; omega
theorem bv_of (n : Nat) (h : n < 18446744073709551616) : (BitVec.ofInt 64 (n : Int)).toNat = n := by
  simp only [BitVec.toNat_ofInt]; omega
theorem andNot_nat {a b : Nat} (ha : a < 18446744073709551616) (hb : b < 18446744073709551616) :
    ∃ c : Nat, bitsI .andNot .u64 (a : Int) (b : Int) = (c : Int) ∧ ∀ i, c.testBit i = (a.testBit i && !b.testBit i) := by
  unfold bitsI
  refine ⟨(BitVec.ofInt 64 (a : Int) &&& ~~~(BitVec.ofInt 64 (b : Int))).toNat, ?_, fun i => ?_⟩
  · show wr .u64 (((BitVec.ofInt 64 (a : Int) &&& ~~~(BitVec.ofInt 64 (b : Int))).toNat : Nat) : Int) = _
    exact wrU (BitVec.isLt _)
  · rw [BitVec.toNat_and, Nat.testBit_and, bv_of a ha]
    by_cases hi : i < 64
    · congr 1
      rw [BitVec.testBit_toNat, BitVec.getLsbD_not, ← BitVec.testBit_toNat, bv_of b hb]
      simp [hi]
    · have hp : 18446744073709551616 ≤ 2 ^ i := Nat.le_trans (show 18446744073709551616 ≤ 2 ^ 64 by decide) (Nat.pow_le_pow_right (show 0 < 2 by decide) (show 64 ≤ i by omega))
      rw [Nat.testBit_lt_two_pow (x := a) (i := i) (Nat.lt_of_lt_of_le ha hp)]
      simp
theorem big_spec {r : Nat} (hr : r < 4503599627370496) (h0 : r ≠ 0) : 1 ≤ Lib.bitLen r ∧ Lib.bitLen r ≤ 52 ∧ r.testBit (Lib.bitLen r - 1) = true ∧ ∀ i, Lib.bitLen r ≤ i → r.testBit i = false := by
  obtain ⟨b1, b2, b3⟩ := Lib.bitLenAux_bounds 64 r (by omega) h0
  have e : Lib.bitLen r = Lib.bitLenAux 64 r := rfl
  rw [← e] at b1 b2 b3
  have hle := Lib.bitLen_le r 52 (by omega) hr
  generalize Lib.bitLen r = n at *
  obtain ⟨k, rfl⟩ : ∃ k, n = k + 1 := ⟨n - 1, by omega⟩
  simp only [Nat.add_sub_cancel] at b2 ⊢
  refine ⟨by omega, hle, ?_, fun i hi => Nat.testBit_lt_two_pow (Nat.lt_of_lt_of_le b3 (Nat.pow_le_pow_right (by decide) hi))⟩
  rw [Nat.testBit_eq_decide_div_mod_eq, decide_eq_true_eq]
  have h1 : 1 ≤ r / 2 ^ k := (Nat.le_div_iff_mul_le (Nat.two_pow_pos k)).2 (by omega)
  have h2 : r / 2 ^ k < 2 := (Nat.div_lt_iff_lt_mul (Nat.two_pow_pos k)).2 (by rw [Nat.pow_succ] at b3; omega)
  omega
theorem clear_nat {r t : Nat} (hr : r < 4503599627370496) (ht : t < 52) : ∃ r' : Nat, bitsI .andNot .u64 (r : Int) (wr .u64 (1 * 2 ^ shAmt .u64 (t : Int))) = (r' : Int) ∧ r' < 4503599627370496 ∧ ∀ i, r'.testBit i = (r.testBit i && !decide (t = i)) := by
  have sh : shAmt .u64 (t : Int) = t := by
    unfold shAmt
    show min ((t : Int)).toNat 64 = t
    omega
  have hp : 2 ^ t < 18446744073709551616 := Nat.lt_of_lt_of_le (Nat.pow_lt_pow_right (by decide) ht) (show 2 ^ 52 ≤ 18446744073709551616 by decide)
  have e : wr .u64 (1 * 2 ^ shAmt .u64 (t : Int)) = ((2 ^ t : Nat) : Int) := by
    rw [sh, Int.one_mul, show (2 : Int) ^ t = ((2 ^ t : Nat) : Int) by rw [Int.natCast_pow]; rfl, wrU hp]
  rw [e]
  obtain ⟨r', h1, h2⟩ := andNot_nat (a := r) (b := 2 ^ t) (by omega) hp
  have hb : ∀ i, r'.testBit i = (r.testBit i && !decide (t = i)) := fun i => by rw [h2 i, Nat.testBit_two_pow]
  refine ⟨r', h1, ?_, hb⟩
  have : r' < 2 ^ 52 := Nat.lt_pow_two_of_testBit r' fun i hi => by
    rw [hb i, Nat.testBit_lt_two_pow (Nat.lt_of_lt_of_le hr (Nat.le_trans (show 4503599627370496 ≤ 2 ^ 52 by decide) (Nat.pow_le_pow_right (show 0 < 2 by decide) hi)))]
    rfl
  exact this
theorem suit_nat {t : Nat} (ht : t < 52) : suitI (t : Int) = ((t / 13 : Nat) : Int) := by
  unfold suitI
  rw [decide_eq_true (show (t : Int) < 52 by omega), cond_true, Int.tdiv_eq_ediv_of_nonneg (by omega), wr8 (by omega) (by omega)]
  rfl
theorem rank_nat {t : Nat} (ht : t < 52) : rankI (t : Int) = ((t % 13 : Nat) : Int) := by
  unfold rankI
  rw [decide_eq_true (show (t : Int) < 52 by omega), cond_true, Int.tmod_eq_emod_of_nonneg (by omega)]
  rfl
def gLn4 : List V → Option (Bool × V)
  | [.int .u64 x] => some (decide (0 ≤ x ∧ x ≤ 18446744073709551615), .int .i64 (lenI x))
  | _ => none
def tabO : PTab := addK (addTab 111 gLn4 emptyTab)
theorem tabO_ok : PTabOk Tryz.prog tabO := by
  refine addK_ok (addTab_ok ?_ emptyTab_ok)
  intro args c v h hc
  unfold gLn4 at h
  split at h
  · rename_i x
    cases h
    rw [decide_eq_true_eq] at hc
    exact tabN_ok (f := 111) (args := [.int .u64 x]) (c := in64 x) (v := .int .i64 (lenI x)) rfl (in64_iff.2 ⟨by omega, by omega⟩)
  · cases h
noncomputable abbrev orcO : Oracle := inl Tryz.prog ftab tabO plainL 100 never never (oracleOf emptyTab) 20
theorem orcO_ok : OracleOk Tryz.prog orcO := inl_ok (oracleOf_ok emptyTab_ok) ftab_ok tabO_ok plainL_ok mixed 20
def hTabJ : HTab := addH 47 gJoin emptyH
theorem hTabJ_ok : HTabOk Tryz.prog hTabJ := by
  refine addH_ok ?_ emptyH_ok
  intro args h c v nb hq hc
  unfold gJoin at hq
  split at hq
  · cases hq
    simp only [Bool.and_eq_true, decide_eq_true_eq] at hc
    exact ⟨.of Tryz.func47 (by kernel_rfl), by rw [List.append_nil]; exact join_fn Tryz.strings_Join Tryz.strings_Join_none hc.1 hc.2⟩
  · cases hq
noncomputable abbrev orcS (T : PTab) (LL : FuncId → Loops) : Oracle := inl Tryz.prog ftab T LL 100 never (fun f => Nat.beq f 47) (hOrcP nrN hTabJ) 20
theorem orcS_ok {T : PTab} (hT : PTabOk Tryz.prog T) {LL : FuncId → Loops} (hL : ∀ f, loopsOk Tryz.prog (LL f)) : OracleOk Tryz.prog (orcS T LL) := inl_ok (hOrcP_ok hTabJ_ok) ftab_ok hT hL mixed 20
end Go.Proofs.YtpalajfcffdhoaaGreatDoor.N4

/- Chapter 4: what Write does in one round. -/
namespace Go.Proofs.YtpalajfcffdhoaaGreatDoor.N4
open Go Go.Eng
noncomputable def wrA : Code := rangeA 6 Tryz.f46
noncomputable def wrB : Code := rangeB 6 Tryz.f46
noncomputable def wrLp : Code := loopOf 1 Tryz.f110
noncomputable def wrLB : TB := .loopB false 46 [o, o, o, o, some (.ptr 0 0), o, o, o, o, o, o, o, o, o, o, o, o, o, o, o, o, o, o, o, o, o] [10] wrA wrB 2
def wrS : TS := mkS [(0, .yield 3), (1, .ptr 1 0), (3, .int .u64)] 0 20
noncomputable def wrT : Tm := ⟨wrS, [.own 85 .strs, .own 22 (.vs [.int .u64]), .defs, wrLB], []⟩
def wrC (r : Int) : Int := wr .i64 (lenI r - 1)
def wrI (c : Int) : Int := wr .u8 (3 - suitI (wr .u8 c))
def wrK (c : Int) : Int := rankI (wr .u8 c)
def wrX (c : Int) : ByteArray := extS ⟨⟨[50, 51, 52, 53, 54, 55, 56, 57, 84, 74, 81, 75, 65]⟩⟩ (wrK c).toNat (wr .u8 (wrK c + 1)).toNat
noncomputable def wrN (r c i k : Int) (ps : List ByteArray) (m : Int) (x : ByteArray) : RT := bif !decide (r = 0) then bif decide (0 ≤ r ∧ r ≤ 18446744073709551615) then bif decide (0 ≤ i ∧ i < 4) then
    match ps[i.toNat]? with
    | some v => bif decide (0 ≤ k ∧ k ≤ wr .u8 (k + 1) ∧ wr .u8 (k + 1) ≤ 13) then bif decide (v.data.toList.length + x.data.toList.length ≤ 9223372036854775807) then bif decide (0 ≤ i ∧ i < 4) then bif decide (i.toNat < ps.length) then
        bif decide (c < 0) then none else some (.normal, [.i (bitsI .andNot .u64 r (wr .u64 (1 * 2 ^ shAmt .u64 c))), .ss (ps.set i.toNat (catS v x)), .i m], [(wrA, wrA), (wrB, wrB)])
      else none else none else none else none
    | none => none
  else none else none else some (.exit 0, [.i r, .ss ps, .i m], [(wrA, wrA), (wrB, wrB)])
theorem wr_round (rd : Option Nat) (r m : Int) (ps : List ByteArray) : roundT Tryz.prog orcO noLoops 100 4 rd 110 wrLp wrT wrT [.i r, .ss ps, .i m] = wrN r (wrC r) (wrI (wrC r)) (wrK (wrC r)) ps m (wrX (wrC r)) := by kernel_rfl
end Go.Proofs.YtpalajfcffdhoaaGreatDoor.N4

/- Chapter 4: Write's loop: each suit's cards go into its part. -/
namespace Go.Proofs.YtpalajfcffdhoaaGreatDoor.N4
open Go Go.Eng
def suf (r s : Nat) : Nat → List UInt8
  | 0 => []
  | n + 1 => if r.testBit (13 * s + n) then rU.getD n 0 :: suf r s n else suf r s n
theorem suf_skip {r s k : Nat} : ∀ n : Nat, k ≤ n → (∀ i, k ≤ i → i < n → r.testBit (13 * s + i) = false) → suf r s n = suf r s k
  | 0, h, _ => by rw [show k = 0 by omega]
  | n + 1, h, hz => by
    by_cases e : k = n + 1
    · rw [e]
    · simp only [suf]
      rw [hz n (by omega) (by omega), if_neg (by simp)]
      exact suf_skip n (by omega) fun i h1 h2 => hz i h1 (by omega)
theorem suf_congr {r q s : Nat} : ∀ n : Nat, (∀ i, i < n → r.testBit (13 * s + i) = q.testBit (13 * s + i)) → suf r s n = suf q s n
  | 0, _ => rfl
  | n + 1, h => by
    simp only [suf]
    rw [h n (by omega), suf_congr n fun i hi => h i (by omega)]
theorem suf_len (r s : Nat) : ∀ n : Nat, (suf r s n).length ≤ n
  | 0 => by simp [suf]
  | n + 1 => by
    have := suf_len r s n
    simp only [suf]
    split <;> simp <;> omega
theorem suf_pop {r q t : Nat} (h1 : r.testBit t = true) (h2 : ∀ i, t + 1 ≤ i → r.testBit i = false) (hq : ∀ i, q.testBit i = (r.testBit i && !decide (t = i))) :
    suf r (t / 13) 13 = rU.getD (t % 13) 0 :: suf q (t / 13) 13 := by
  have ht : 13 * (t / 13) + t % 13 = t := Nat.div_add_mod t 13
  have hm : t % 13 < 13 := Nat.mod_lt _ (by decide)
  rw [suf_skip (k := t % 13 + 1) 13 (by omega) (fun i h3 _ => h2 _ (by omega)), suf_skip (r := q) (k := t % 13) 13 (by omega) (fun i h3 _ => by
    rw [hq]
    by_cases e : t = 13 * (t / 13) + i
    · rw [decide_eq_true e]; simp
    · rw [h2 _ (by omega)]; rfl)]
  simp only [suf]
  rw [ht, h1, if_pos rfl, suf_congr (r := r) (q := q) (t % 13) fun i hi => by rw [hq, decide_eq_false (by omega)]; simp]
theorem suf_other {r q t s : Nat} (hs : s ≠ t / 13) (hq : ∀ i, q.testBit i = (r.testBit i && !decide (t = i))) : suf r s 13 = suf q s 13 :=
  suf_congr 13 fun i hi => by rw [hq, decide_eq_false (by omega)]; simp
theorem ext_one {k : Nat} (hk : k < 13) : extS ⟨⟨[50, 51, 52, 53, 54, 55, 56, 57, 84, 74, 81, 75, 65]⟩⟩ k (k + 1) = ⟨⟨[rU.getD k 0]⟩⟩ := by
  match k, hk with
  | 0, _ => rfl
  | 1, _ => rfl
  | 2, _ => rfl
  | 3, _ => rfl
  | 4, _ => rfl
  | 5, _ => rfl
  | 6, _ => rfl
  | 7, _ => rfl
  | 8, _ => rfl
  | 9, _ => rfl
  | 10, _ => rfl
  | 11, _ => rfl
  | 12, _ => rfl
  | n + 13, h => omega
abbrev U4 := List UInt8 × List UInt8 × List UInt8 × List UInt8
def bA (l : List UInt8) : ByteArray := ⟨⟨l⟩⟩
def u4 (x : U4) : List ByteArray := [bA x.1, bA x.2.1, bA x.2.2.1, bA x.2.2.2]
def add4 (x : U4) (r : Nat) : U4 := (x.1 ++ suf r 3 13, x.2.1 ++ suf r 2 13, x.2.2.1 ++ suf r 1 13, x.2.2.2 ++ suf r 0 13)
def small4 (x : U4) : Prop := x.1.length ≤ 13 ∧ x.2.1.length ≤ 13 ∧ x.2.2.1.length ≤ 13 ∧ x.2.2.2.length ≤ 13
theorem wrCodes : codesOk [(wrA, wrA), (wrB, wrB)] := by intro x hx; simp at hx; rcases hx with rfl | rfl <;> rfl
theorem wr_step {r m : Nat} {x : U4} (hr : r < 4503599627370496) (h0 : r ≠ 0) (hx : small4 (add4 x r)) : ∃ r' x', r' < 4503599627370496 ∧ r' < r ∧ add4 x' r' = add4 x r ∧
    wrN r (wrC r) (wrI (wrC r)) (wrK (wrC r)) (u4 x) m (wrX (wrC r)) = some (.normal, [.i (r' : Int), .ss (u4 x'), .i (m : Int)], [(wrA, wrA), (wrB, wrB)]) := by
  obtain ⟨b1, b2, b3, b4⟩ := big_spec hr h0
  obtain ⟨r', e1, e2, e3⟩ := clear_nat (r := r) (t := Lib.bitLen r - 1) hr (by omega)
  have hL : lenI (r : Int) = ((Lib.bitLen r : Nat) : Int) := by unfold lenI; simp
  have hw : wrC (r : Int) = ((Lib.bitLen r - 1 : Nat) : Int) := by unfold wrC; rw [hL, wr64 (by omega) (by omega)]; omega
  have hb4 : ∀ i, (Lib.bitLen r - 1) + 1 ≤ i → r.testBit i = false := fun i hi => b4 i (by omega)
  have hpop := suf_pop (t := Lib.bitLen r - 1) b3 hb4 e3
  have hoth := fun s hs => suf_other (s := s) (t := Lib.bitLen r - 1) (r := r) (q := r') hs e3
  have hlt : r' < r := by
    have hle : r' ≤ r := Nat.le_of_testBit fun i hi => by rw [e3 i] at hi; simp at hi; exact hi.1
    have hne : r' ≠ r := fun e => by
      have := e3 (Lib.bitLen r - 1)
      rw [e, b3, decide_eq_true rfl] at this
      cases this
    omega
  have ht : Lib.bitLen r - 1 < 52 := by omega
  rw [hw]
  generalize Lib.bitLen r - 1 = t at *
  have w8 : wr .u8 (t : Int) = (t : Int) := wr8 (by omega) (by omega)
  have hs : suitI (t : Int) = ((t / 13 : Nat) : Int) := suit_nat ht
  have hk : rankI (t : Int) = ((t % 13 : Nat) : Int) := rank_nat ht
  have hm : t % 13 < 13 := Nat.mod_lt _ (by decide)
  have hI : wrI (t : Int) = ((3 - t / 13 : Nat) : Int) := by unfold wrI; rw [w8, hs, wr8 (by omega) (by omega)]; omega
  have hK : wrK (t : Int) = ((t % 13 : Nat) : Int) := by unfold wrK; rw [w8, hk]
  have hK1 : wr .u8 (((t % 13 : Nat) : Int) + 1) = ((t % 13 + 1 : Nat) : Int) := by rw [wr8 (by omega) (by omega)]; omega
  have hX : wrX (t : Int) = ⟨⟨[rU.getD (t % 13) 0]⟩⟩ := by
    unfold wrX
    rw [hK, hK1]
    exact ext_one hm
  rw [hI, hK, hX]
  obtain ⟨xa, xb, xc, xd⟩ := x
  have fin : ∀ (j : Nat) (v : List UInt8) (x' : U4), j = 3 - t / 13 → (u4 (xa, xb, xc, xd))[j]? = some (bA v) → v.length ≤ 13 → (u4 (xa, xb, xc, xd)).set j (bA (v ++ [rU.getD (t % 13) 0])) = u4 x' →
      wrN (r : Int) (t : Int) ((3 - t / 13 : Nat) : Int) ((t % 13 : Nat) : Int) (u4 (xa, xb, xc, xd)) (m : Int) ⟨⟨[rU.getD (t % 13) 0]⟩⟩ = some (.normal, [.i (r' : Int), .ss (u4 x'), .i (m : Int)], [(wrA, wrA), (wrB, wrB)]) := by
    intro j v x' hj hv hl hset
    subst hj
    unfold wrN
    rw [decide_eq_false (show ¬ (r : Int) = 0 by omega), decide_eq_true (show 0 ≤ (r : Int) ∧ (r : Int) ≤ 18446744073709551615 by omega), decide_eq_true (show 0 ≤ ((3 - t / 13 : Nat) : Int) ∧ ((3 - t / 13 : Nat) : Int) < 4 by omega),
      show (((3 - t / 13 : Nat) : Int)).toNat = 3 - t / 13 by omega, hv, e1, hK1, decide_eq_true (show 0 ≤ ((t % 13 : Nat) : Int) ∧ ((t % 13 : Nat) : Int) ≤ ((t % 13 + 1 : Nat) : Int) ∧ ((t % 13 + 1 : Nat) : Int) ≤ 13 by omega),
      decide_eq_true (show 3 - t / 13 < (u4 (xa, xb, xc, xd)).length by simp [u4]; omega), decide_eq_false (show ¬ (t : Int) < 0 by omega)]
    have hl2 : (bA v).data.toList.length + (⟨⟨[rU.getD (t % 13) 0]⟩⟩ : ByteArray).data.toList.length ≤ 9223372036854775807 := by simp [bA]; omega
    dsimp only [Bool.not_false, cond_true, cond_false]
    rw [decide_eq_true hl2, cond_true, show catS (bA v) ⟨⟨[rU.getD (t % 13) 0]⟩⟩ = bA (v ++ [rU.getD (t % 13) 0]) from rfl, hset]
    rfl
  simp only [small4, add4, List.length_append] at hx
  have h4 : t / 13 = 0 ∨ t / 13 = 1 ∨ t / 13 = 2 ∨ t / 13 = 3 := by omega
  have o3 := hoth 3; have o2 := hoth 2; have o1 := hoth 1; have o0 := hoth 0
  rcases h4 with e | e | e | e <;> rw [e] at hpop o0 o1 o2 o3
  · refine ⟨r', (xa, xb, xc, xd ++ [rU.getD (t % 13) 0]), e2, hlt, ?_, fin 3 xd _ (by omega) rfl (by omega) rfl⟩
    simp only [add4]; rw [hpop, o1 (by decide), o2 (by decide), o3 (by decide)]; simp
  · refine ⟨r', (xa, xb, xc ++ [rU.getD (t % 13) 0], xd), e2, hlt, ?_, fin 2 xc _ (by omega) rfl (by omega) rfl⟩
    simp only [add4]; rw [hpop, o0 (by decide), o2 (by decide), o3 (by decide)]; simp
  · refine ⟨r', (xa, xb ++ [rU.getD (t % 13) 0], xc, xd), e2, hlt, ?_, fin 1 xb _ (by omega) rfl (by omega) rfl⟩
    simp only [add4]; rw [hpop, o0 (by decide), o1 (by decide), o3 (by decide)]; simp
  · refine ⟨r', (xa ++ [rU.getD (t % 13) 0], xb, xc, xd), e2, hlt, ?_, fin 0 xa _ (by omega) rfl (by omega) rfl⟩
    simp only [add4]; rw [hpop, o0 (by decide), o1 (by decide), o2 (by decide)]; simp
theorem suf_zero (s : Nat) : ∀ n, suf 0 s n = []
  | 0 => rfl
  | n + 1 => by simp [suf, suf_zero s n]
theorem wr_loop (rd : Option Nat) (m : Nat) : ∀ y : Nat × U4, (y.1 < 4503599627370496 ∧ small4 (add4 y.2 y.1)) →
    SimC Tryz.prog 4 rd (.loop wrLp) (wrT.at [.i (y.1 : Int), .ss (u4 y.2), .i (m : Int)]) (.exit 0) (wrT.at [.i 0, .ss (u4 (add4 y.2 y.1)), .i (m : Int)]) := by
  refine loop_of_rounds (C := orcO) (L := noLoops) (N := 100) (me := 110) (T := wrT) (T' := wrT) orcO_ok mixed noLoops_ok (by kernel_rfl) (by kernel_rfl) (X := Nat × U4)
    (fun y => [.i (y.1 : Int), .ss (u4 y.2), .i (m : Int)]) (fun y => y.1 < 4503599627370496 ∧ small4 (add4 y.2 y.1)) (fun y => y.1) (fun y => (.exit 0, [.i 0, .ss (u4 (add4 y.2 y.1)), .i (m : Int)])) ?_
  rintro ⟨r, x⟩ ⟨hr, hl⟩
  dsimp only at hr hl ⊢
  have h := wr_round rd r m (u4 x)
  by_cases h0 : r = 0
  · subst h0
    refine ⟨_, _, _, h.trans (show wrN _ _ _ _ _ _ _ = some (.exit 0, [.i ((0 : Nat) : Int), .ss (u4 x), .i (m : Int)], [(wrA, wrA), (wrB, wrB)]) from rfl), wrCodes, .inr ⟨by simp, ?_⟩⟩
    simp [add4, suf_zero]
  · obtain ⟨r', x', e1, e2, e3, e4⟩ := wr_step (m := m) hr h0 hl
    exact ⟨_, _, _, h.trans e4, wrCodes, .inl ⟨rfl, (r', x'), rfl, ⟨e1, by dsimp only; rw [e3]; exact hl⟩, e2, by dsimp only; rw [e3]⟩⟩
end Go.Proofs.YtpalajfcffdhoaaGreatDoor.N4
