/- Texts merged: CParse, CParse2. -/
import Derived.Test.YtpalajfcffdhoaaGreatDoorCSplit
/- Chapter 4: a part of a text is read. -/
namespace Go.Proofs.YtpalajfcffdhoaaGreatDoor.N4
open Go Go.Eng
noncomputable def paLp : Code := loopOf 11 Tryz.f73
def paT : Tm := ⟨mkS [(2, .int .u64), (3, .int .i64), (4, .int .u64), (6, .int .i64), (7, .str), (8, .int .i64), (23, .agg [.str, .str, .str, .str]), (24, .int .i64), (29, .int .i64), (30, .int .i64)] 0 56, [], []⟩
def paX : Tm := ⟨mkS [(2, .int .u64), (3, .int .i64), (4, .int .u64), (23, .agg [.str, .str, .str, .str]), (24, .int .i64)] 0 56, [], []⟩
def rkI (b : UInt8) : Int := idxI ⟨⟨[50, 51, 52, 53, 54, 55, 56, 57, 84, 74, 81, 75, 65]⟩⟩ b.toNat
def paB (i k : Int) : Int := wr .i64 (wr .i64 (wr .i64 (3 - i) * 13) + k)
noncomputable def paK (z e m i la i2 n j k : Int) (p s0 s1 s2 s3 : ByteArray) : RT := bif decide (k < 0) then some (.ret, [.i 0, .i 40, .i m, .s s0, .s s1, .s s2, .s s3, .i i2], []) else
    bif decide (la ≤ k) then some (.ret, [.i 0, .i 40, .i m, .s s0, .s s1, .s s2, .s s3, .i i2], []) else
    bif decide (paB i k < 0) then none else
    some (.normal, [.i z, .i e, .i (bitsI .or .u64 m (wr .u64 (1 * 2 ^ shAmt .u64 (paB i k)))), .i i, .s p, .i k, .s s0, .s s1, .s s2, .s s3, .i i2, .i n, .i (wr .i64 (j + 1))], [])
noncomputable def paR (z e m i la i2 n j : Int) (p s0 s1 s2 s3 : ByteArray) : RT := bif decide (j < n) then bif decide (0 ≤ j) then match p.data.toList[j.toNat]? with
    | some b => paK z e m i la i2 n j (rkI b) p s0 s1 s2 s3
    | none => none
  else none else some (.exit 2, [.i z, .i e, .i m, .s s0, .s s1, .s s2, .s s3, .i i2], [])
theorem pa_round (rd : Option Nat) (z e m i la i2 n j : Int) (p s0 s1 s2 s3 : ByteArray) : roundT Tryz.prog (orcS tabI plainL) noLoops 100 0 rd 73 paLp paT paX [.i z, .i e, .i m, .i i, .s p, .i la, .s s0, .s s1, .s s2, .s s3, .i i2, .i n, .i j] = paR z e m i la i2 n j p s0 s1 s2 s3 := by kernel_rfl
theorem rk_all : allN 256 (fun n => match Lib.indexByte rU (UInt8.ofNat n) with
    | .ofNat k => decide (k < 13) && decide (rU.getD k 0 = UInt8.ofNat n)
    | .negSucc _ => rU.all fun c => decide (c ≠ UInt8.ofNat n)) = true := by kernel_rfl
theorem rk_eq (b : UInt8) : rkI b = Lib.indexByte rU b := by unfold rkI idxI; simp [rU]
theorem rk_cases (b : UInt8) : (∃ k : Nat, rkI b = k ∧ k < 13 ∧ rU.getD k 0 = b) ∨ (rkI b < 0 ∧ b ∉ rU) := by
  have h := allN_ok rk_all b.toNat (UInt8.toNat_lt b)
  have e : UInt8.ofNat b.toNat = b := by simp
  rw [e] at h
  rw [rk_eq]
  cases hk : Lib.indexByte rU b with
  | ofNat k =>
    rw [hk] at h
    simp only [Bool.and_eq_true, decide_eq_true_eq] at h
    exact .inl ⟨k, rfl, h.1, h.2⟩
  | negSucc k =>
    rw [hk] at h
    simp only [List.all_eq_true, decide_eq_true_eq] at h
    exact .inr ⟨by omega, fun hm => h b hm rfl⟩
theorem rk_of : allN 13 (fun k => decide (rkI (rU.getD k 0) = Int.ofNat k) && decide (rU.getD k 0 ≠ 46)) = true := by kernel_rfl
theorem rk_get {k : Nat} (hk : k < 13) : rkI (rU.getD k 0) = k ∧ rU.getD k 0 ≠ 46 := by
  have := allN_ok rk_of k hk
  simp only [Bool.and_eq_true, decide_eq_true_eq] at this
  exact this
def pp (s : Nat) : List UInt8 → Nat → Nat → Bool × Nat
  | [], _, m => (true, m)
  | b :: r, la, m => if rkI b < 0 ∨ (la : Int) ≤ rkI b then (false, m) else pp s r (rkI b).toNat (m ||| 2 ^ (13 * s + (rkI b).toNat))
theorem or_nat {a b : Nat} (ha : a < 18446744073709551616) (hb : b < 18446744073709551616) : bitsI .or .u64 (a : Int) (b : Int) = ((a ||| b : Nat) : Int) := by
  unfold bitsI
  show wr .u64 (((BitVec.ofInt 64 (a : Int) ||| BitVec.ofInt 64 (b : Int)).toNat : Nat) : Int) = _
  rw [BitVec.toNat_or, bv_of a ha, bv_of b hb, wrU]
  exact Nat.or_lt_two_pow (n := 64) ha hb
theorem or_bit {m q : Nat} (hm : m < 4503599627370496) (hq : q < 52) : bitsI .or .u64 (m : Int) (wr .u64 (1 * 2 ^ shAmt .u64 (q : Int))) = ((m ||| 2 ^ q : Nat) : Int) ∧ m ||| 2 ^ q < 4503599627370496 := by
  have sh : shAmt .u64 (q : Int) = q := by
    unfold shAmt
    show min ((q : Int)).toNat 64 = q
    omega
  have h52 : (2 : Nat) ^ q < 2 ^ 52 := Nat.pow_lt_pow_right (by decide) hq
  have hp : 2 ^ q < 18446744073709551616 := by omega
  have e : wr .u64 (1 * 2 ^ shAmt .u64 (q : Int)) = ((2 ^ q : Nat) : Int) := by
    rw [sh, Int.one_mul, show (2 : Int) ^ q = ((2 ^ q : Nat) : Int) by rw [Int.natCast_pow]; rfl, wrU hp]
  rw [e]
  exact ⟨or_nat (by omega) hp, Nat.or_lt_two_pow (n := 52) hm h52⟩
theorem pa_loop (rd : Option Nat) (s : Nat) (hs : s ≤ 3) (p : List UInt8) (hp : p.length ≤ 60) (i2 : Int) (s0 s1 s2 s3 : ByteArray) : ∀ x : List UInt8 × Nat × Nat, ((∃ q, p = q ++ x.1) ∧ x.2.1 ≤ 13 ∧ x.2.2 < 4503599627370496) →
    SimC Tryz.prog 0 rd (.loop paLp) (paT.at [.i 0, .i 0, .i (x.2.2 : Int), .i ((3 - s : Nat) : Int), .s (bA p), .i (x.2.1 : Int), .s s0, .s s1, .s s2, .s s3, .i i2, .i (p.length : Int), .i ((p.length - x.1.length : Nat) : Int)])
      (bif (pp s x.1 x.2.1 x.2.2).1 then .exit 2 else .ret)
      (paX.at [.i 0, .i (bif (pp s x.1 x.2.1 x.2.2).1 then 0 else 40), .i ((pp s x.1 x.2.1 x.2.2).2 : Int), .s s0, .s s1, .s s2, .s s3, .i i2]) := by
  refine loop_of_rounds (C := orcS tabI plainL) (L := noLoops) (N := 100) (me := 73) (T := paT) (T' := paX) (orcS_ok tabI_ok plainL_ok) mixed noLoops_ok (by kernel_rfl) (by kernel_rfl) (X := List UInt8 × Nat × Nat)
    (fun x => [.i 0, .i 0, .i (x.2.2 : Int), .i ((3 - s : Nat) : Int), .s (bA p), .i (x.2.1 : Int), .s s0, .s s1, .s s2, .s s3, .i i2, .i (p.length : Int), .i ((p.length - x.1.length : Nat) : Int)])
    (fun x => (∃ q, p = q ++ x.1) ∧ x.2.1 ≤ 13 ∧ x.2.2 < 4503599627370496) (fun x => x.1.length)
    (fun x => ((bif (pp s x.1 x.2.1 x.2.2).1 then .exit 2 else .ret), [.i 0, .i (bif (pp s x.1 x.2.1 x.2.2).1 then 0 else 40), .i ((pp s x.1 x.2.1 x.2.2).2 : Int), .s s0, .s s1, .s s2, .s s3, .i i2])) ?_
  rintro ⟨r, la, m⟩ ⟨⟨q, hq⟩, hla, hm⟩
  dsimp only at hq hla hm ⊢
  have hlen : p.length = q.length + r.length := by rw [hq]; simp
  have h := pa_round rd 0 0 m ((3 - s : Nat) : Int) la i2 p.length ((p.length - r.length : Nat) : Int) (bA p) s0 s1 s2 s3
  unfold paR at h
  rw [show (((p.length - r.length : Nat) : Int)).toNat = p.length - r.length by omega, show (bA p).data.toList = p from rfl] at h
  cases r with
  | nil =>
    rw [decide_eq_false (show ¬ ((p.length - ([] : List UInt8).length : Nat) : Int) < (p.length : Int) by simp)] at h
    exact ⟨_, _, _, h, codes0, .inr ⟨by simp, rfl⟩⟩
  | cons b r =>
    simp only [List.length_cons] at hlen h ⊢
    have hb : p[p.length - (r.length + 1)]? = some b := by
      rw [show p.length - (r.length + 1) = q.length by omega, hq, List.getElem?_append_right (Nat.le_refl _), Nat.sub_self]; rfl
    rw [decide_eq_true (show ((p.length - (r.length + 1) : Nat) : Int) < (p.length : Int) by omega), decide_eq_true (show 0 ≤ ((p.length - (r.length + 1) : Nat) : Int) by omega), hb] at h
    simp only [cond_true] at h
    unfold paK at h
    simp only [pp]
    by_cases h1 : rkI b < 0
    · rw [decide_eq_true h1] at h
      rw [if_pos (.inl h1)]
      exact ⟨_, _, _, h, codes0, .inr ⟨by simp, rfl⟩⟩
    · rw [decide_eq_false h1] at h
      by_cases h2 : (la : Int) ≤ rkI b
      · rw [decide_eq_true h2] at h
        rw [if_pos (.inr h2)]
        exact ⟨_, _, _, h, codes0, .inr ⟨by simp, rfl⟩⟩
      · rw [decide_eq_false h2] at h
        rw [if_neg (by omega)]
        obtain ⟨k, hk⟩ : ∃ k : Nat, rkI b = k := ⟨(rkI b).toNat, by omega⟩
        rw [hk] at h h2 ⊢
        have hB : paB ((3 - s : Nat) : Int) (k : Int) = ((13 * s + k : Nat) : Int) := by
          unfold paB
          rw [wr64 (x := 3 - ((3 - s : Nat) : Int)) (by omega) (by omega), wr64 (x := (3 - ((3 - s : Nat) : Int)) * 13) (by omega) (by omega), wr64 (by omega) (by omega)]
          omega
        obtain ⟨o1, o2⟩ := or_bit (m := m) (q := 13 * s + k) hm (by omega)
        rw [hB, o1, decide_eq_false (show ¬ ((13 * s + k : Nat) : Int) < 0 by omega), wr64 (x := ((p.length - (r.length + 1) : Nat) : Int) + 1) (by omega) (by omega),
          show ((p.length - (r.length + 1) : Nat) : Int) + 1 = ((p.length - r.length : Nat) : Int) by omega] at h
        rw [show ((k : Int)).toNat = k by omega]
        exact ⟨_, _, _, h, codes0, .inl ⟨rfl, (r, k, m ||| 2 ^ (13 * s + k)), rfl, ⟨⟨q ++ [b], by simp [hq]⟩, by dsimp only; omega, o2⟩, by simp, rfl⟩⟩
end Go.Proofs.YtpalajfcffdhoaaGreatDoor.N4

/- Chapter 4: Parse's contract. -/
namespace Go.Proofs.YtpalajfcffdhoaaGreatDoor.N4
open Go Go.Eng
noncomputable def paTree : List PV → Fin
  | [.i z, .i e, .i m, .i i, .s p, .i la, .s s0, .s s1, .s s2, .s s3, .i i2, .i n, .i j] => .br (pB (z = 0 ∧ e = 0 ∧ 0 ≤ m ∧ m < 4503599627370496 ∧ 0 ≤ i ∧ i ≤ 3 ∧ la = 13 ∧ n = Int.ofNat p.data.toList.length ∧ p.data.toList.length ≤ 60 ∧ j = 0))
      (.br (pp (3 - i.toNat) p.data.toList 13 m.toNat).1 (.leaf (.exit 2) (paX.at [.i 0, .i 0, .i ((pp (3 - i.toNat) p.data.toList 13 m.toNat).2 : Nat), .s s0, .s s1, .s s2, .s s3, .i i2]))
        (.leaf .ret (paX.at [.i 0, .i 40, .i ((pp (3 - i.toNat) p.data.toList 13 m.toNat).2 : Nat), .s s0, .s s1, .s s2, .s s3, .i i2]))) .no
  | _ => .no
noncomputable def paSum : LoopSum := lsumF 0 paT paLp paTree
theorem paSum_ok : LoopOk Tryz.prog paSum := by
  refine lsumF_ok (by kernel_rfl) (fun rd ps e1 st1 h => ?_)
  unfold paTree at h
  split at h
  · rename_i z e m i p la s0 s1 s2 s3 i2 n j
    simp only [Fin.pick] at h
    cases hc : pB (z = 0 ∧ e = 0 ∧ 0 ≤ m ∧ m < 4503599627370496 ∧ 0 ≤ i ∧ i ≤ 3 ∧ la = 13 ∧ n = Int.ofNat p.data.toList.length ∧ p.data.toList.length ≤ 60 ∧ j = 0) with
    | false => rw [hc] at h; cases h
    | true =>
      rw [hc, cond_true] at h
      rw [pB_iff] at hc
      obtain ⟨rfl, rfl, h1, h2, h3, h4, rfl, rfl, h5, rfl⟩ := hc
      obtain ⟨k, rfl⟩ : ∃ k : Nat, m = k := ⟨m.toNat, by omega⟩
      obtain ⟨s, hs1, rfl⟩ : ∃ s : Nat, s ≤ 3 ∧ i = ((3 - s : Nat) : Int) := ⟨3 - i.toNat, by omega, by omega⟩
      rw [show 3 - (((3 - s : Nat) : Int)).toNat = s by omega, show ((k : Int)).toNat = k by omega] at h
      have main := pa_loop rd s hs1 p.data.toList h5 i2 s0 s1 s2 s3 (p.data.toList, 13, k) ⟨⟨[], rfl⟩, Nat.le_refl 13, by dsimp only; omega⟩
      dsimp only at main
      rw [Nat.sub_self] at main
      cases hp : (pp s p.data.toList 13 k).1 with
      | true => rw [hp] at h main; cases h; exact main
      | false => rw [hp] at h main; cases h; exact main
  · cases h
noncomputable def paL : Loops := sums (fun n => match n with | 11 => some paSum | _ => none)
theorem paL_ok : loopsOk Tryz.prog paL := by
  intro n g hg
  simp only [paL, sums] at hg
  split at hg
  · cases hg; exact paSum_ok
  · cases hg
def paErr : Option V := some (.tuple [.int .u64 0, .int .i64 40])
noncomputable def paC (i : Int) (l : List UInt8) (m : Int) (K : Int → Option V) : Option V := cond (codesB [(paLp, paLp)]) (bif pB ((0 : Int) = 0 ∧ (0 : Int) = 0 ∧ 0 ≤ m ∧ m < 4503599627370496 ∧ 0 ≤ i ∧ i ≤ 3 ∧ (13 : Int) = 13 ∧ Int.ofNat l.length = Int.ofNat l.length ∧ l.length ≤ 60 ∧ (0 : Int) = 0) then
    bif (pp (3 - i.toNat) l 13 m.toNat).1 then K ((pp (3 - i.toNat) l 13 m.toNat).2 : Nat) else paErr else none) none
def nI (s : ByteArray) : Int := foldI minI (wr .i64 (cntI s 46 + 1)) [wr .i64 (Int.ofNat s.data.toList.length + 1)]
theorem pa_eval (s : ByteArray) : evalFn Tryz.prog (orcS tabI spL) paL 100 73 Tryz.f73 [.str s] [] (fun v _ => some v) =
    bif decide (55 < Int.ofNat s.data.toList.length) then paErr else bif !decide (cntI s 46 = 3) then paErr else bif decide (0 ≤ nI s ∧ nI s ≤ nI s ∧ nI s * 17 ≤ 140737488355328) then
      cond (codesB [(spLp, spLp)]) (bif pB ((⟨#[46]⟩ : ByteArray) = ⟨⟨[46]⟩⟩ ∧ wr .i64 (nI s - 1) = 3 ∧ (0 : Int) = 0 ∧ List.replicate (nI s).toNat (⟨#[]⟩ : ByteArray) = [⟨#[]⟩, ⟨#[]⟩, ⟨#[]⟩, ⟨#[]⟩] ∧ s.data.toList.count 46 = 3 ∧ s.data.toList.length ≤ 60) then
        paC 0 (cut1 s.data.toList) 0 fun m3 => paC 1 (cut1 (rest1 s.data.toList)) m3 fun m2 => paC 2 (cut1 (rest1 (rest1 s.data.toList))) m2 fun m1 => paC 3 (rest1 (rest1 (rest1 s.data.toList))) m1 fun m0 =>
          some (.tuple [.int .u64 m0, .int .i64 0])
      else none) none
    else none := by kernel_rfl
def ppK (s : Nat) (l : List UInt8) (m : Nat) (K : Nat → Option Nat) : Option Nat := if (pp s l 13 m).1 then K (pp s l 13 m).2 else none
def parseN (l : List UInt8) : Option Nat := if 55 < l.length ∨ l.count 46 ≠ 3 then none else
  ppK 3 (cut1 l) 0 fun m3 => ppK 2 (cut1 (rest1 l)) m3 fun m2 => ppK 1 (cut1 (rest1 (rest1 l))) m2 fun m1 => ppK 0 (rest1 (rest1 (rest1 l))) m1 some
theorem pp_lt {s : Nat} (hs : s ≤ 3) : ∀ {l : List UInt8} {la m : Nat}, la ≤ 13 → m < 4503599627370496 → (pp s l la m).2 < 4503599627370496
  | [], la, m, _, hm => hm
  | b :: r, la, m, hl, hm => by
    simp only [pp]
    split
    · exact hm
    · rename_i hn
      exact pp_lt hs (by omega) (or_bit hm (by omega)).2
def resP : Option Nat → V
  | some m => .tuple [.int .u64 (m : Nat), .int .i64 0]
  | none => .tuple [.int .u64 0, .int .i64 40]
theorem codesP : codesB [(paLp, paLp)] = true := by rw [codesB_iff]; intro x hx; simp at hx; rw [hx]
theorem codesS : codesB [(spLp, spLp)] = true := by rw [codesB_iff]; intro x hx; simp at hx; rw [hx]
theorem paC_is {i : Nat} {s : Nat} (hi : i = 3 - s) (hs : s ≤ 3) {l : List UInt8} {m : Nat} (hl : l.length ≤ 60) (hm : m < 4503599627370496) {K : Int → Option V} {K' : Nat → Option Nat} (hK : ∀ m' : Nat, m' < 4503599627370496 → K (m' : Int) = some (resP (K' m'))) :
    paC (i : Int) l (m : Int) K = some (resP (ppK s l m K')) := by
  unfold paC ppK
  rw [codesP, pB_iff.2 ⟨rfl, rfl, by omega, by omega, by omega, by omega, rfl, rfl, hl, rfl⟩, show 3 - ((i : Int)).toNat = s by omega, show ((m : Int)).toNat = m by omega]
  have hlt := pp_lt hs (l := l) (la := 13) (m := m) (by omega) hm
  cases hp : (pp s l 13 m).1 with
  | true => simp only [cond_true]; rw [hK _ hlt]; rfl
  | false => rfl
theorem rest_len : ∀ l : List UInt8, (rest1 l).length ≤ l.length
  | [] => by simp [rest1]
  | b :: l => by
    unfold rest1
    have := rest_len l
    split <;> simp <;> omega
theorem cut_len : ∀ l : List UInt8, (cut1 l).length ≤ l.length
  | [] => by simp [cut1]
  | b :: l => by
    unfold cut1
    have := cut_len l
    split <;> simp; omega
theorem parse_p (s : ByteArray) : FnPure Tryz.prog 73 [.str s] (resP (parseN s.data.toList)) := by
  refine fnPure_of_eval (N := 100) (orcS_ok tabI_ok spL_ok) mixed Tryz.func73 (by kernel_rfl) paL_ok ?_ rfl (by unfold resP; split <;> rfl)
  rw [pa_eval]
  generalize hl : s.data.toList = l
  have hcnt : cntI s 46 = ((l.count 46 : Nat) : Int) := by unfold cntI Lib.countByte; rw [hl]
  unfold parseN
  by_cases h1 : 55 < l.length
  · rw [decide_eq_true (show (55 : Int) < Int.ofNat l.length by simp; omega), if_pos (.inl h1)]; rfl
  · rw [decide_eq_false (show ¬ (55 : Int) < Int.ofNat l.length by simp; omega), hcnt]
    by_cases h2 : l.count 46 = 3
    · have hle : l.count 46 ≤ l.length := List.count_le_length
      have hn : nI s = 4 := by
        unfold nI
        rw [hcnt, hl, h2, wr64 (x := ((3 : Nat) : Int) + 1) (by omega) (by omega), wr64 (by simp; omega) (by simp; omega)]
        simp only [foldI, minI]
        rw [decide_eq_false (by simp; omega)]
        rfl
      have r1 := rest_len l; have r2 := rest_len (rest1 l); have r3 := rest_len (rest1 (rest1 l))
      have c1 := cut_len l; have c2 := cut_len (rest1 l); have c3 := cut_len (rest1 (rest1 l))
      rw [if_neg (by omega), hn, h2, decide_eq_true (show ((3 : Nat) : Int) = 3 from rfl), decide_eq_true (show (0 : Int) ≤ 4 ∧ (4 : Int) ≤ 4 ∧ (4 : Int) * 17 ≤ 140737488355328 by decide), codesS, pB_iff.2 ⟨rfl, rfl, rfl, rfl, rfl, by omega⟩]
      simp only [Bool.not_true, cond_false, cond_true]
      refine paC_is (i := 0) (s := 3) (m := 0) rfl (by decide) (by omega) (by decide) fun m3 h3 => ?_
      refine paC_is (i := 1) (s := 2) rfl (by decide) (by omega) h3 fun m2 h2 => ?_
      refine paC_is (i := 2) (s := 1) rfl (by decide) (by omega) h2 fun m1 h1 => ?_
      exact paC_is (i := 3) (s := 0) rfl (by decide) (by omega) h1 fun m0 h0 => rfl
    · rw [if_pos (.inr h2), decide_eq_false (show ¬ ((l.count 46 : Nat) : Int) = 3 by omega)]; rfl
end Go.Proofs.YtpalajfcffdhoaaGreatDoor.N4
