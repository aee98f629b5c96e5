/- Texts merged: CSplit2, CParse. -/
import Derived.Test.YtpalajfcffdhoaaDoorCWrite3
/- Chapter 4: a string with three points is cut into four parts. -/
namespace Go.Proofs.YtpalajfcffdhoaaDoor.N4
open Go Go.Eng
def cut1 : List UInt8 → List UInt8
  | [] => []
  | b :: l => if b == 46 then [] else b :: cut1 l
def rest1 : List UInt8 → List UInt8
  | [] => []
  | b :: l => if b == 46 then l else rest1 l
theorem cut_eq : ∀ {l : List UInt8}, 0 < l.count 46 → l = cut1 l ++ 46 :: rest1 l ∧ Lib.indexByte l 46 = ((cut1 l).length : Int) ∧ l.count 46 = (rest1 l).count 46 + 1
  | [], h => by simp at h
  | b :: l, h => by
    unfold cut1 rest1 Lib.indexByte
    by_cases hb : (b == 46) = true
    · have : b = 46 := by simpa using hb
      subst this
      simp
    · have hb' : (b == 46) = false := by simpa using hb
      rw [List.count_cons, hb'] at h
      simp only [Bool.false_eq_true, if_false, Nat.add_zero] at h
      obtain ⟨h1, h2, h3⟩ := cut_eq h
      simp only [hb', Bool.false_eq_true, if_false]
      refine ⟨?_, ?_, ?_⟩
      · conv => lhs; rw [h1]
        rfl
      · rw [h2]
        rw [if_neg (by simp)]
        simp
      · rw [List.count_cons, hb', h3]; simp
theorem cut_none : ∀ l : List UInt8, (cut1 l).count 46 = 0
  | [] => rfl
  | b :: l => by
    unfold cut1
    by_cases hb : (b == 46) = true
    · rw [if_pos hb]; rfl
    · rw [if_neg hb, List.count_cons, cut_none l]
      simpa using hb
theorem idx_bA (l : List UInt8) : idxI (bA l) 46 = Lib.indexByte l 46 := rfl
/-- How the parts are laid down. -/
def spF : Nat → Nat → List UInt8 → List ByteArray → List UInt8 × List ByteArray
  | 0, _, l, ss => (l, ss)
  | k + 1, i, l, ss => spF k (i + 1) (rest1 l) (ss.set i (bA (cut1 l)))
theorem sp_step {i : Nat} {l : List UInt8} {ps ss : List ByteArray} (hi : i < 3) (hs : ss.length = 4) (hl : l.length ≤ 60) (hc : 0 < l.count 46) :
    spR 3 i (idxI (bA l) 46) (bA l) ps ss = some (.normal, [.s (bA (rest1 l)), .s ⟨⟨[46]⟩⟩, .i 3, .i ((i + 1 : Nat) : Int), .ss ps, .ss (ss.set i (bA (cut1 l)))], []) ∧ (rest1 l).length ≤ 60 ∧ (rest1 l).count 46 = l.count 46 - 1 := by
  obtain ⟨h1, h2, h3⟩ := cut_eq hc
  have hlen : l.length = (cut1 l).length + (rest1 l).length + 1 := by
    have := congrArg List.length h1
    simp only [List.length_append, List.length_cons] at this
    omega
  rw [idx_bA, h2]
  unfold spR
  have w0 : wr .i64 (((cut1 l).length : Int) + 0) = ((cut1 l).length : Int) := by rw [wr64 (by omega) (by omega)]; omega
  have w1 : wr .i64 (((cut1 l).length : Int) + 1) = (((cut1 l).length + 1 : Nat) : Int) := by rw [wr64 (by omega) (by omega)]; omega
  have wi : wr .i64 ((i : Int) + 1) = ((i + 1 : Nat) : Int) := by rw [wr64 (by omega) (by omega)]; omega
  have hd : (bA l).data.toList = l := rfl
  rw [w0, w1, wi, hd, decide_eq_true (show (i : Int) < 3 by omega), decide_eq_false (show ¬ ((cut1 l).length : Int) < 0 by omega), decide_eq_true (show 0 ≤ (0 : Int) ∧ 0 ≤ ((cut1 l).length : Int) ∧ ((cut1 l).length : Int) ≤ Int.ofNat l.length by simp; omega),
    decide_eq_true (show 0 ≤ (i : Int) ∧ (i : Int) < Int.ofNat ss.length by simp; omega), show ((i : Int)).toNat = i by omega, decide_eq_true (show i < ss.length by omega),
    decide_eq_true (show 0 ≤ (((cut1 l).length + 1 : Nat) : Int) ∧ (((cut1 l).length + 1 : Nat) : Int) ≤ Int.ofNat l.length ∧ Int.ofNat l.length ≤ Int.ofNat l.length by simp; omega)]
  have e1 : extS (bA l) (0 : Int).toNat (((cut1 l).length : Int)).toNat = bA (cut1 l) := by
    unfold extS bA
    have : l.take (cut1 l).length = cut1 l := by
      rw [show l.take (cut1 l).length = (cut1 l ++ 46 :: rest1 l).take (cut1 l).length from congrArg _ h1]
      simp
    simp only [Int.toNat_natCast, Int.toNat_zero, Nat.sub_zero, List.drop_zero]
    rw [this]
  have e2 : extS (bA l) ((((cut1 l).length + 1 : Nat) : Int)).toNat (Int.ofNat l.length).toNat = bA (rest1 l) := by
    unfold extS bA
    have : (l.drop ((cut1 l).length + 1)) = rest1 l := by
      rw [show l.drop ((cut1 l).length + 1) = (cut1 l ++ 46 :: rest1 l).drop ((cut1 l).length + 1) from congrArg _ h1, List.drop_append]
      simp
    rw [show (((((cut1 l).length + 1 : Nat) : Int))).toNat = (cut1 l).length + 1 by omega, show (Int.ofNat l.length).toNat = l.length from rfl, this, List.take_of_length_le (by omega)]
  rw [e1, e2]
  exact ⟨rfl, by omega, by omega⟩
theorem sp_loop (rd : Option Nat) (ps : List ByteArray) : ∀ x : Nat × List UInt8 × List ByteArray, (x.1 ≤ 3 ∧ x.2.1.count 46 = 3 - x.1 ∧ x.2.2.length = 4 ∧ x.2.1.length ≤ 60) →
    SimC Tryd.prog 1 rd (.loop spLp) (spT.at [.s (bA x.2.1), .s ⟨⟨[46]⟩⟩, .i 3, .i (x.1 : Int), .ss ps, .ss x.2.2]) (.exit 0)
      (spT.at [.s (bA (spF (3 - x.1) x.1 x.2.1 x.2.2).1), .s ⟨⟨[46]⟩⟩, .i 3, .i 3, .ss ps, .ss (spF (3 - x.1) x.1 x.2.1 x.2.2).2]) := by
  refine loop_of_rounds (C := orcS tabI plainL) (L := noLoops) (N := 100) (me := 35) (T := spT) (T' := spT) (orcS_ok tabI_ok plainL_ok) mixed noLoops_ok (by kernel_rfl) (by kernel_rfl) (X := Nat × List UInt8 × List ByteArray)
    (fun x => [.s (bA x.2.1), .s ⟨⟨[46]⟩⟩, .i 3, .i (x.1 : Int), .ss ps, .ss x.2.2]) (fun x => x.1 ≤ 3 ∧ x.2.1.count 46 = 3 - x.1 ∧ x.2.2.length = 4 ∧ x.2.1.length ≤ 60) (fun x => 3 - x.1)
    (fun x => (.exit 0, [.s (bA (spF (3 - x.1) x.1 x.2.1 x.2.2).1), .s ⟨⟨[46]⟩⟩, .i 3, .i 3, .ss ps, .ss (spF (3 - x.1) x.1 x.2.1 x.2.2).2])) ?_
  rintro ⟨i, l, ss⟩ ⟨hi, hc, hs, hl⟩
  dsimp only at hi hc hs hl ⊢
  have h := sp_round rd (bA l) 3 i ps ss
  by_cases h3 : i < 3
  · obtain ⟨e1, e2, e3⟩ := sp_step (ps := ps) h3 hs hl (by omega)
    refine ⟨_, _, _, h.trans e1, codes0, .inl ⟨rfl, (i + 1, rest1 l, ss.set i (bA (cut1 l))), rfl, ⟨by dsimp only; omega, by dsimp only; omega, by dsimp only; rw [List.length_set]; exact hs, e2⟩, by dsimp only; omega, ?_⟩⟩
    dsimp only
    rw [show 3 - i = (3 - (i + 1)) + 1 by omega]
    rfl
  · have : i = 3 := by omega
    subst this
    exact ⟨_, _, _, h.trans (show spR _ _ _ _ _ _ = some (.exit 0, [.s (bA l), .s ⟨⟨[46]⟩⟩, .i 3, .i ((3 : Nat) : Int), .ss ps, .ss ss], []) from rfl), codes0, .inr ⟨by simp, rfl⟩⟩
noncomputable def spTree : List PV → Fin
  | [.s s, .s d, .i n, .i i, .ss ps, .ss ss] => .br (pB (d = ⟨⟨[46]⟩⟩ ∧ n = 3 ∧ i = 0 ∧ ss = [⟨#[]⟩, ⟨#[]⟩, ⟨#[]⟩, ⟨#[]⟩] ∧ s.data.toList.count 46 = 3 ∧ s.data.toList.length ≤ 60))
      (.leaf (.exit 0) (spT.at [.s (bA (rest1 (rest1 (rest1 s.data.toList)))), .s ⟨⟨[46]⟩⟩, .i 3, .i 3, .ss ps, .ss [bA (cut1 s.data.toList), bA (cut1 (rest1 s.data.toList)), bA (cut1 (rest1 (rest1 s.data.toList))), ⟨#[]⟩]])) .no
  | _ => .no
noncomputable def spSum : LoopSum := lsumF 1 spT spLp spTree
theorem spSum_ok : LoopOk Tryd.prog spSum := by
  refine lsumF_ok (by kernel_rfl) (fun rd ps e1 s1 h => ?_)
  unfold spTree at h
  split at h
  · rename_i s d n i qs ss
    simp only [Fin.pick] at h
    cases hc : pB (d = ⟨⟨[46]⟩⟩ ∧ n = 3 ∧ i = 0 ∧ ss = [⟨#[]⟩, ⟨#[]⟩, ⟨#[]⟩, ⟨#[]⟩] ∧ s.data.toList.count 46 = 3 ∧ s.data.toList.length ≤ 60) with
    | false => rw [hc] at h; cases h
    | true =>
      rw [hc, cond_true] at h
      rw [pB_iff] at hc
      obtain ⟨rfl, rfl, rfl, rfl, h4, h5⟩ := hc
      cases h
      exact sp_loop rd qs (0, s.data.toList, [⟨#[]⟩, ⟨#[]⟩, ⟨#[]⟩, ⟨#[]⟩]) ⟨by dsimp only; omega, by dsimp only; omega, rfl, h5⟩
  · cases h
noncomputable def spL : FuncId → Loops := fun f => match f with
  | 35 => sums (fun n => match n with | 11 => some spSum | _ => none)
  | _ => noLoops
theorem spL_ok : ∀ f, loopsOk Tryd.prog (spL f) := fun f => by
  unfold spL
  split
  · intro n g hg
    simp only [sums] at hg
    split at hg
    · cases hg; exact spSum_ok
    · cases hg
  · exact noLoops_ok
end Go.Proofs.YtpalajfcffdhoaaDoor.N4

/- Chapter 4: a part of a text is read. -/
namespace Go.Proofs.YtpalajfcffdhoaaDoor.N4
open Go Go.Eng
noncomputable def paLp : Code := loopOf 11 Tryd.f16
def paT : Tm := ⟨mkS [(2, .int .u64), (3, .int .i64), (4, .int .u64), (6, .int .i64), (7, .str), (8, .int .i64), (23, .agg [.str, .str, .str, .str]), (24, .int .i64), (29, .int .i64), (30, .int .i64)] 0 56, [], []⟩
def paX : Tm := ⟨mkS [(2, .int .u64), (3, .int .i64), (4, .int .u64), (23, .agg [.str, .str, .str, .str]), (24, .int .i64)] 0 56, [], []⟩
def rkI (b : UInt8) : Int := idxI ⟨⟨[50, 51, 52, 53, 54, 55, 56, 57, 84, 74, 81, 75, 65]⟩⟩ b.toNat
def paB (i k : Int) : Int := wr .i64 (wr .i64 (wr .i64 (3 - i) * 13) + k)
noncomputable def paK (z e m i la i2 n j k : Int) (p s0 s1 s2 s3 : ByteArray) : RT := bif decide (k < 0) then some (.ret, [.i 0, .i 40, .i m, .s s0, .s s1, .s s2, .s s3, .i i2], []) else
    bif decide (la ≤ k) then some (.ret, [.i 0, .i 40, .i m, .s s0, .s s1, .s s2, .s s3, .i i2], []) else
    bif decide (paB i k < 0) then none else
    some (.normal, [.i z, .i e, .i (bitsI .or .u64 m (wr .u64 (1 * 2 ^ shAmt .u64 (paB i k)))), .i i, .s p, .i k, .s s0, .s s1, .s s2, .s s3, .i i2, .i n, .i (wr .i64 (j + 1))], [])
noncomputable def paR (z e m i la i2 n j : Int) (p s0 s1 s2 s3 : ByteArray) : RT := bif decide (j < n) then bif decide (0 ≤ j) then match p.data.toList[j.toNat]? with
    | some b => paK z e m i la i2 n j (rkI b) p s0 s1 s2 s3
    | none => none
  else none else some (.exit 2, [.i z, .i e, .i m, .s s0, .s s1, .s s2, .s s3, .i i2], [])
theorem pa_round (rd : Option Nat) (z e m i la i2 n j : Int) (p s0 s1 s2 s3 : ByteArray) : roundT Tryd.prog (orcS tabI plainL) noLoops 100 0 rd 16 paLp paT paX [.i z, .i e, .i m, .i i, .s p, .i la, .s s0, .s s1, .s s2, .s s3, .i i2, .i n, .i j] = paR z e m i la i2 n j p s0 s1 s2 s3 := by kernel_rfl
/-! ### the rank of a byte -/
theorem rk_all : allN 256 (fun n => match Lib.indexByte rU (UInt8.ofNat n) with
    | .ofNat k => decide (k < 13) && decide (rU.getD k 0 = UInt8.ofNat n)
    | .negSucc _ => rU.all fun c => decide (c ≠ UInt8.ofNat n)) = true := by kernel_rfl
theorem rk_eq (b : UInt8) : rkI b = Lib.indexByte rU b := by unfold rkI idxI; simp [rU]
theorem rk_cases (b : UInt8) : (∃ k : Nat, rkI b = k ∧ k < 13 ∧ rU.getD k 0 = b) ∨ (rkI b < 0 ∧ b ∉ rU) := by
  have h := allN_ok rk_all b.toNat (UInt8.toNat_lt b)
  have e : UInt8.ofNat b.toNat = b := by simp
  rw [e] at h
  rw [rk_eq]
  cases hk : Lib.indexByte rU b with
  | ofNat k =>
    rw [hk] at h
    simp only [Bool.and_eq_true, decide_eq_true_eq] at h
    exact .inl ⟨k, rfl, h.1, h.2⟩
  | negSucc k =>
    rw [hk] at h
    simp only [List.all_eq_true, decide_eq_true_eq] at h
    exact .inr ⟨by omega, fun hm => h b hm rfl⟩
theorem rk_of : allN 13 (fun k => decide (rkI (rU.getD k 0) = Int.ofNat k) && decide (rU.getD k 0 ≠ 46)) = true := by kernel_rfl
theorem rk_get {k : Nat} (hk : k < 13) : rkI (rU.getD k 0) = k ∧ rU.getD k 0 ≠ 46 := by
  have := allN_ok rk_of k hk
  simp only [Bool.and_eq_true, decide_eq_true_eq] at this
  exact this
/-- A part is read: whether it is right; the set. -/
def pp (s : Nat) : List UInt8 → Nat → Nat → Bool × Nat
  | [], _, m => (true, m)
  | b :: r, la, m => if rkI b < 0 ∨ (la : Int) ≤ rkI b then (false, m) else pp s r (rkI b).toNat (m ||| 2 ^ (13 * s + (rkI b).toNat))
theorem or_nat {a b : Nat} (ha : a < 18446744073709551616) (hb : b < 18446744073709551616) : bitsI .or .u64 (a : Int) (b : Int) = ((a ||| b : Nat) : Int) := by
  unfold bitsI
  show wr .u64 (((BitVec.ofInt 64 (a : Int) ||| BitVec.ofInt 64 (b : Int)).toNat : Nat) : Int) = _
  rw [BitVec.toNat_or, bv_of a ha, bv_of b hb, wrU]
  exact Nat.or_lt_two_pow (n := 64) ha hb
theorem or_bit {m q : Nat} (hm : m < 4503599627370496) (hq : q < 52) : bitsI .or .u64 (m : Int) (wr .u64 (1 * 2 ^ shAmt .u64 (q : Int))) = ((m ||| 2 ^ q : Nat) : Int) ∧ m ||| 2 ^ q < 4503599627370496 := by
  have sh : shAmt .u64 (q : Int) = q := by
    unfold shAmt
    show min ((q : Int)).toNat 64 = q
    omega
  have h52 : (2 : Nat) ^ q < 2 ^ 52 := Nat.pow_lt_pow_right (by decide) hq
  have hp : 2 ^ q < 18446744073709551616 := by omega
  have e : wr .u64 (1 * 2 ^ shAmt .u64 (q : Int)) = ((2 ^ q : Nat) : Int) := by
    rw [sh, Int.one_mul, show (2 : Int) ^ q = ((2 ^ q : Nat) : Int) by rw [Int.natCast_pow]; rfl, wrU hp]
  rw [e]
  exact ⟨or_nat (by omega) hp, Nat.or_lt_two_pow (n := 52) hm h52⟩
theorem pa_loop (rd : Option Nat) (s : Nat) (hs : s ≤ 3) (p : List UInt8) (hp : p.length ≤ 60) (i2 : Int) (s0 s1 s2 s3 : ByteArray) : ∀ x : List UInt8 × Nat × Nat, ((∃ q, p = q ++ x.1) ∧ x.2.1 ≤ 13 ∧ x.2.2 < 4503599627370496) →
    SimC Tryd.prog 0 rd (.loop paLp) (paT.at [.i 0, .i 0, .i (x.2.2 : Int), .i ((3 - s : Nat) : Int), .s (bA p), .i (x.2.1 : Int), .s s0, .s s1, .s s2, .s s3, .i i2, .i (p.length : Int), .i ((p.length - x.1.length : Nat) : Int)])
      (bif (pp s x.1 x.2.1 x.2.2).1 then .exit 2 else .ret)
      (paX.at [.i 0, .i (bif (pp s x.1 x.2.1 x.2.2).1 then 0 else 40), .i ((pp s x.1 x.2.1 x.2.2).2 : Int), .s s0, .s s1, .s s2, .s s3, .i i2]) := by
  refine loop_of_rounds (C := orcS tabI plainL) (L := noLoops) (N := 100) (me := 16) (T := paT) (T' := paX) (orcS_ok tabI_ok plainL_ok) mixed noLoops_ok (by kernel_rfl) (by kernel_rfl) (X := List UInt8 × Nat × Nat)
    (fun x => [.i 0, .i 0, .i (x.2.2 : Int), .i ((3 - s : Nat) : Int), .s (bA p), .i (x.2.1 : Int), .s s0, .s s1, .s s2, .s s3, .i i2, .i (p.length : Int), .i ((p.length - x.1.length : Nat) : Int)])
    (fun x => (∃ q, p = q ++ x.1) ∧ x.2.1 ≤ 13 ∧ x.2.2 < 4503599627370496) (fun x => x.1.length)
    (fun x => ((bif (pp s x.1 x.2.1 x.2.2).1 then .exit 2 else .ret), [.i 0, .i (bif (pp s x.1 x.2.1 x.2.2).1 then 0 else 40), .i ((pp s x.1 x.2.1 x.2.2).2 : Int), .s s0, .s s1, .s s2, .s s3, .i i2])) ?_
  rintro ⟨r, la, m⟩ ⟨⟨q, hq⟩, hla, hm⟩
  dsimp only at hq hla hm ⊢
  have hlen : p.length = q.length + r.length := by rw [hq]; simp
  have h := pa_round rd 0 0 m ((3 - s : Nat) : Int) la i2 p.length ((p.length - r.length : Nat) : Int) (bA p) s0 s1 s2 s3
  unfold paR at h
  rw [show (((p.length - r.length : Nat) : Int)).toNat = p.length - r.length by omega, show (bA p).data.toList = p from rfl] at h
  cases r with
  | nil =>
    rw [decide_eq_false (show ¬ ((p.length - ([] : List UInt8).length : Nat) : Int) < (p.length : Int) by simp)] at h
    exact ⟨_, _, _, h, codes0, .inr ⟨by simp, rfl⟩⟩
  | cons b r =>
    simp only [List.length_cons] at hlen h ⊢
    have hb : p[p.length - (r.length + 1)]? = some b := by
      rw [show p.length - (r.length + 1) = q.length by omega, hq, List.getElem?_append_right (Nat.le_refl _), Nat.sub_self]; rfl
    rw [decide_eq_true (show ((p.length - (r.length + 1) : Nat) : Int) < (p.length : Int) by omega), decide_eq_true (show 0 ≤ ((p.length - (r.length + 1) : Nat) : Int) by omega), hb] at h
    simp only [cond_true] at h
    unfold paK at h
    simp only [pp]
    by_cases h1 : rkI b < 0
    · rw [decide_eq_true h1] at h
      rw [if_pos (.inl h1)]
      exact ⟨_, _, _, h, codes0, .inr ⟨by simp, rfl⟩⟩
    · rw [decide_eq_false h1] at h
      by_cases h2 : (la : Int) ≤ rkI b
      · rw [decide_eq_true h2] at h
        rw [if_pos (.inr h2)]
        exact ⟨_, _, _, h, codes0, .inr ⟨by simp, rfl⟩⟩
      · rw [decide_eq_false h2] at h
        rw [if_neg (by omega)]
        obtain ⟨k, hk⟩ : ∃ k : Nat, rkI b = k := ⟨(rkI b).toNat, by omega⟩
        rw [hk] at h h2 ⊢
        have hB : paB ((3 - s : Nat) : Int) (k : Int) = ((13 * s + k : Nat) : Int) := by
          unfold paB
          rw [wr64 (x := 3 - ((3 - s : Nat) : Int)) (by omega) (by omega), wr64 (x := (3 - ((3 - s : Nat) : Int)) * 13) (by omega) (by omega), wr64 (by omega) (by omega)]
          omega
        obtain ⟨o1, o2⟩ := or_bit (m := m) (q := 13 * s + k) hm (by omega)
        rw [hB, o1, decide_eq_false (show ¬ ((13 * s + k : Nat) : Int) < 0 by omega), wr64 (x := ((p.length - (r.length + 1) : Nat) : Int) + 1) (by omega) (by omega),
          show ((p.length - (r.length + 1) : Nat) : Int) + 1 = ((p.length - r.length : Nat) : Int) by omega] at h
        rw [show ((k : Int)).toNat = k by omega]
        exact ⟨_, _, _, h, codes0, .inl ⟨rfl, (r, k, m ||| 2 ^ (13 * s + k)), rfl, ⟨⟨q ++ [b], by simp [hq]⟩, by dsimp only; omega, o2⟩, by simp, rfl⟩⟩
end Go.Proofs.YtpalajfcffdhoaaDoor.N4
