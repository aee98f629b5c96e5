/- Texts merged: CTxt, CRParse. -/
import Derived.Test.YtpalajfcffdhoaaGreatDoorCParse
import Derived.Test.YtpalajfcffdhoaaGreatDoorCWrite3
import Derived.Test.YtpalajfcffdhoaaGreatDoorEng4
/- Chapter 4: texts of sets, plainly: Parse and Write are the opposite of one another. -/
namespace Go.Proofs.YtpalajfcffdhoaaGreatDoor.N4
open Go Go.Eng
theorem or_test (m q i : Nat) : (m ||| 2 ^ q).testBit i = (m.testBit i || decide (q = i)) := by rw [Nat.testBit_or, Nat.testBit_two_pow]
theorem suf_no (r s : Nat) : ∀ n, n ≤ 13 → (suf r s n).count 46 = 0
  | 0, _ => rfl
  | n + 1, h => by
    simp only [suf]
    have ih := suf_no r s n (by omega)
    split
    · rw [List.count_cons, ih, if_neg (by simpa using (rk_get (k := n) (by omega)).2)]
    · exact ih
theorem pp_fwd {s : Nat} : ∀ {l : List UInt8} {la m : Nat}, la ≤ 13 → (∀ i, i < la → m.testBit (13 * s + i) = false) → (pp s l la m).1 = true →
    l = suf (pp s l la m).2 s la ∧ ∀ i, ¬ (13 * s ≤ i ∧ i < 13 * s + la) → (pp s l la m).2.testBit i = m.testBit i
  | [], la, m, _, hz, _ => by
    simp only [pp]
    refine ⟨?_, by simp⟩
    rw [suf_skip (k := 0) la (Nat.zero_le _) (fun i _ hi => hz i hi)]; rfl
  | b :: r, la, m, hla, hz, h => by
    simp only [pp] at h ⊢
    split at h
    · cases h
    · rename_i hn
      rw [if_neg hn]
      rcases rk_cases b with ⟨k, hk, hk13, hb⟩ | ⟨hneg, _⟩
      · have hkt : (rkI b).toNat = k := by omega
        rw [hkt] at h ⊢
        have hlt : k < la := by omega
        obtain ⟨h1, h2⟩ := pp_fwd (s := s) (l := r) (la := k) (m := m ||| 2 ^ (13 * s + k)) (by omega) (fun i hi => by rw [or_test, hz i (by omega), decide_eq_false (by omega)]; rfl) h
        generalize (pp s r k (m ||| 2 ^ (13 * s + k))).2 = m' at h1 h2 ⊢
        have hbit : ∀ i, ¬ (13 * s ≤ i ∧ i < 13 * s + k) → m'.testBit i = (m.testBit i || decide (13 * s + k = i)) := fun i hi => by rw [h2 i hi, or_test]
        refine ⟨?_, fun i hi => by rw [hbit i (by omega), decide_eq_false (by omega), Bool.or_false]⟩
        rw [suf_skip (k := k + 1) la (by omega) (fun i h3 h4 => by rw [hbit _ (by omega), hz i h4, decide_eq_false (by omega)]; rfl)]
        simp only [suf]
        rw [hbit _ (by omega), decide_eq_true rfl, Bool.or_true, if_pos rfl, hb, ← h1]
      · omega
theorem pp_bwd {r s : Nat} : ∀ {n la m : Nat}, n ≤ la → la ≤ 13 → (∀ i, i < n → m.testBit (13 * s + i) = false) →
    (pp s (suf r s n) la m).1 = true ∧ ∀ i, (pp s (suf r s n) la m).2.testBit i = if 13 * s ≤ i ∧ i < 13 * s + n then r.testBit i else m.testBit i
  | 0, la, m, _, _, _ => by
    simp only [suf, pp]
    exact ⟨trivial, fun i => by rw [if_neg (by omega)]⟩
  | n + 1, la, m, h1, h2, hz => by
    simp only [suf]
    cases hb : r.testBit (13 * s + n) with
    | true =>
      obtain ⟨hk, _⟩ := rk_get (k := n) (by omega)
      rw [if_pos rfl]
      simp only [pp]
      rw [hk, if_neg (by omega), show ((n : Int)).toNat = n by omega]
      obtain ⟨q1, q2⟩ := pp_bwd (r := r) (s := s) (n := n) (la := n) (m := m ||| 2 ^ (13 * s + n)) (Nat.le_refl _) (by omega) (fun i hi => by rw [or_test, hz i (by omega), decide_eq_false (by omega)]; rfl)
      refine ⟨q1, fun i => ?_⟩
      rw [q2 i]
      by_cases hi : 13 * s ≤ i ∧ i < 13 * s + n
      · rw [if_pos hi, if_pos (by omega)]
      · rw [if_neg hi, or_test]
        by_cases he : 13 * s + n = i
        · subst he; rw [if_pos (by omega), hb, decide_eq_true rfl, Bool.or_true]
        · rw [if_neg (by omega), decide_eq_false he, Bool.or_false]
    | false =>
      rw [if_neg (by simp)]
      obtain ⟨q1, q2⟩ := pp_bwd (r := r) (s := s) (n := n) (la := la) (m := m) (by omega) h2 (fun i hi => hz i (by omega))
      refine ⟨q1, fun i => ?_⟩
      rw [q2 i]
      by_cases hi : 13 * s ≤ i ∧ i < 13 * s + n
      · rw [if_pos hi, if_pos (by omega)]
      · rw [if_neg hi]
        by_cases he : 13 * s + n = i
        · subst he; rw [if_pos (by omega), hb, hz n (by omega)]
        · rw [if_neg (by omega)]
theorem cut_suf : ∀ {p q : List UInt8}, p.count 46 = 0 → cut1 (p ++ 46 :: q) = p ∧ rest1 (p ++ 46 :: q) = q
  | [], q, _ => ⟨rfl, rfl⟩
  | b :: p, q, h => by
    rw [List.count_cons] at h
    have hb : (b == 46) = false := by
      cases hb : (b == 46) with
      | false => rfl
      | true => rw [hb] at h; simp at h
    obtain ⟨h1, h2⟩ := cut_suf (p := p) (q := q) (by omega)
    simp only [List.cons_append, cut1, rest1, hb, Bool.false_eq_true, if_false, h1, h2]
    exact ⟨trivial, trivial⟩
theorem wtxt_count (m : Nat) : (wtxt m).count 46 = 3 := by
  unfold wtxt
  simp only [List.count_append, List.count_cons, suf_no m _ 13 (by decide)]
  rfl
theorem parse_back {m : Nat} (hm : m < 4503599627370496) : parseN (wtxt m) = some m := by
  unfold parseN
  have hlen := wtxt_len m
  rw [if_neg (by rw [wtxt_count]; omega)]
  unfold wtxt
  have n3 := suf_no m 3 13 (by decide); have n2 := suf_no m 2 13 (by decide); have n1 := suf_no m 1 13 (by decide)
  rw [(cut_suf n3).1, (cut_suf n3).2, (cut_suf n2).1, (cut_suf n2).2, (cut_suf n1).1, (cut_suf n1).2]
  obtain ⟨a1, a2⟩ := pp_bwd (r := m) (s := 3) (n := 13) (la := 13) (m := 0) (by decide) (by decide) (fun i _ => Nat.zero_testBit _)
  unfold ppK
  try dsimp only
  rw [if_pos a1]
  generalize (pp 3 (suf m 3 13) 13 0).2 = m3 at a2 ⊢
  obtain ⟨b1, b2⟩ := pp_bwd (r := m) (s := 2) (n := 13) (la := 13) (m := m3) (by decide) (by decide) (fun i hi => by rw [a2, if_neg (by omega)]; exact Nat.zero_testBit _)
  try dsimp only
  rw [if_pos b1]
  generalize (pp 2 (suf m 2 13) 13 m3).2 = m2 at b2 ⊢
  obtain ⟨c1, c2⟩ := pp_bwd (r := m) (s := 1) (n := 13) (la := 13) (m := m2) (by decide) (by decide) (fun i hi => by rw [b2, if_neg (by omega), a2, if_neg (by omega)]; exact Nat.zero_testBit _)
  try dsimp only
  rw [if_pos c1]
  generalize (pp 1 (suf m 1 13) 13 m2).2 = m1 at c2 ⊢
  obtain ⟨d1, d2⟩ := pp_bwd (r := m) (s := 0) (n := 13) (la := 13) (m := m1) (by decide) (by decide) (fun i hi => by rw [c2, if_neg (by omega), b2, if_neg (by omega), a2, if_neg (by omega)]; exact Nat.zero_testBit _)
  try dsimp only
  rw [if_pos d1]
  generalize (pp 0 (suf m 0 13) 13 m1).2 = m0 at d2 ⊢
  congr 1
  apply Nat.eq_of_testBit_eq
  intro i
  rw [d2, c2, b2, a2, Nat.zero_testBit]
  by_cases hi : i < 52
  · split
    · rfl
    · split
      · rfl
      · split
        · rfl
        · rw [if_pos (by omega)]
  · rw [if_neg (by omega), if_neg (by omega), if_neg (by omega), if_neg (by omega), Nat.testBit_lt_two_pow (Nat.lt_of_lt_of_le hm (Nat.le_trans (show 4503599627370496 ≤ 2 ^ 52 by decide) (Nat.pow_le_pow_right (by decide) (by omega))))]
theorem parse_only {l : List UInt8} {m : Nat} (h : parseN l = some m) : l = wtxt m ∧ m < 4503599627370496 := by
  unfold parseN at h
  split at h
  · cases h
  · rename_i hn
    have h3 : l.count 46 = 3 := Classical.byContradiction fun hc => hn (.inr hc)
    obtain ⟨x1, _, x3⟩ := cut_eq (l := l) (by omega)
    obtain ⟨y1, _, y3⟩ := cut_eq (l := rest1 l) (by omega)
    obtain ⟨z1, _, z3⟩ := cut_eq (l := rest1 (rest1 l)) (by omega)
    have z0 : ∀ i, i < 13 → (0 : Nat).testBit (13 * 3 + i) = false := fun i _ => Nat.zero_testBit _
    unfold ppK at h
    try dsimp only at h
    split at h
    · rename_i q1
      obtain ⟨a1, a2⟩ := pp_fwd (Nat.le_refl 13) z0 q1
      have l3 := pp_lt (s := 3) (by decide) (l := cut1 l) (la := 13) (m := 0) (by decide) (by decide)
      generalize (pp 3 (cut1 l) 13 0).2 = m3 at *
      try dsimp only at h
      split at h
      · rename_i q2
        obtain ⟨b1, b2⟩ := pp_fwd (Nat.le_refl 13) (fun i hi => by rw [a2 _ (by omega)]; exact Nat.zero_testBit _) q2
        have l2 := pp_lt (s := 2) (by decide) (l := cut1 (rest1 l)) (la := 13) (m := m3) (by decide) l3
        generalize (pp 2 (cut1 (rest1 l)) 13 m3).2 = m2 at *
        try dsimp only at h
        split at h
        · rename_i q3
          obtain ⟨c1, c2⟩ := pp_fwd (Nat.le_refl 13) (fun i hi => by rw [b2 _ (by omega), a2 _ (by omega)]; exact Nat.zero_testBit _) q3
          have l1 := pp_lt (s := 1) (by decide) (l := cut1 (rest1 (rest1 l))) (la := 13) (m := m2) (by decide) l2
          generalize (pp 1 (cut1 (rest1 (rest1 l))) 13 m2).2 = m1 at *
          try dsimp only at h
          split at h
          · rename_i q4
            obtain ⟨d1, d2⟩ := pp_fwd (Nat.le_refl 13) (fun i hi => by rw [c2 _ (by omega), b2 _ (by omega), a2 _ (by omega)]; exact Nat.zero_testBit _) q4
            have l0 := pp_lt (s := 0) (by decide) (l := rest1 (rest1 (rest1 l))) (la := 13) (m := m1) (by decide) l1
            generalize (pp 0 (rest1 (rest1 (rest1 l))) 13 m1).2 = m0 at *
            cases h
            refine ⟨?_, l0⟩
            unfold wtxt
            rw [suf_congr (r := m) (q := m3) (s := 3) 13 (fun i hi => by rw [d2 _ (by omega), c2 _ (by omega), b2 _ (by omega)]),
              suf_congr (r := m) (q := m2) (s := 2) 13 (fun i hi => by rw [d2 _ (by omega), c2 _ (by omega)]),
              suf_congr (r := m) (q := m1) (s := 1) 13 (fun i hi => by rw [d2 _ (by omega)]), ← a1, ← b1, ← c1, ← d1, ← z1, ← y1]
            exact x1
          · cases h
        · cases h
      · cases h
    · cases h
def prV (s : ByteArray) : Int := match parseN s.data.toList with
  | some m => (m : Nat)
  | none => 0
def prE (s : ByteArray) : Int := match parseN s.data.toList with
  | some _ => 0
  | none => 40
end Go.Proofs.YtpalajfcffdhoaaGreatDoor.N4

/- Chapter 4, the reference: Parse: its loops. -/
namespace Go.Proofs.YtpalajfcffdhoaaGreatDoor.N4
open Go Go.Eng
theorem or_add : ∀ (c m : Nat), m.testBit c = false → m ||| 2 ^ c = m + 2 ^ c
  | 0, m, h => by
    rw [Nat.testBit_zero, decide_eq_false_iff_not] at h
    have h1 : (m ||| 1) / 2 = m / 2 := by rw [Nat.or_div_two]; simp
    have h2 : (m ||| 1).testBit 0 = true := by rw [Nat.testBit_or, show (1 : Nat).testBit 0 = true from rfl, Bool.or_true]
    rw [Nat.testBit_zero, decide_eq_true_eq] at h2
    show m ||| 1 = m + 1
    generalize m ||| 1 = w at h1 h2 ⊢
    omega
  | c + 1, m, h => by
    have ih := or_add c (m / 2) (by rw [← h, Nat.testBit_succ])
    have e : (2 : Nat) ^ (c + 1) = 2 * 2 ^ c := by rw [Nat.pow_succ]; omega
    have h1 : (m ||| 2 ^ (c + 1)) / 2 = m / 2 + 2 ^ c := by rw [Nat.or_div_two, ← ih, e, Nat.mul_div_cancel_left _ (by omega)]
    have h2 : (m ||| 2 ^ (c + 1)).testBit 0 = m.testBit 0 := by rw [Nat.testBit_or, Nat.testBit_two_pow]; simp
    rw [Nat.testBit_zero, Nat.testBit_zero, Bool.eq_iff_iff, decide_eq_true_eq, decide_eq_true_eq] at h2
    generalize hq : (2 : Nat) ^ (c + 1) = q at *
    generalize hw : m ||| q = w at *
    generalize 2 ^ c = p at *
    omega
noncomputable def rpLp2 : Code := loopOf 14 Tryz.f74
noncomputable def rpLp1 : Code := loopOf 5 Tryz.f74
def rpT2 : Tm := ⟨mkS [(0, .str), (2, .int .u64), (3, .int .i64), (4, .int .u64), (5, .int .i64), (6, .int .i64), (7, .int .i64), (8, .int .i64), (9, .int .i64)] 0 52, [], []⟩
def rpX2 : Tm := ⟨mkS [(0, .str), (2, .int .u64), (3, .int .i64), (4, .int .u64), (5, .int .i64), (6, .int .i64), (7, .int .i64), (8, .int .i64)] 0 52, [], []⟩
def rpT1 : Tm := ⟨mkS [(0, .str), (2, .int .u64), (3, .int .i64), (4, .int .u64), (5, .int .i64), (6, .int .i64), (7, .int .i64)] 0 52, [], []⟩
def rpX1 : Tm := ⟨mkS [(2, .int .u64), (3, .int .i64), (4, .int .u64), (5, .int .i64)] 0 52, [], []⟩
def rpXr : Tm := ⟨mkS [(2, .int .u64), (3, .int .i64)] 0 52, [], []⟩
def rpE : XE → Tm
  | .ret => rpXr
  | _ => rpX1
theorem rpE_ok : ∀ e, (rpE e).ok = true := fun e => by cases e <;> kernel_rfl
def chAt {α : Type} (s : ByteArray) (i : Int) (K : UInt8 → Option α) : Option α := bif decide (0 ≤ i) then (match s.data.toList[i.toNat]? with | some c => K c | none => none) else none
theorem chAt_at {α : Type} {l : List UInt8} {i : Nat} (h : i < l.length) (K : UInt8 → Option α) : chAt (bA l) (i : Int) K = K l[i] := by
  unfold chAt
  rw [decide_eq_true (show 0 ≤ (i : Int) by omega), cond_true, show ((i : Int)).toNat = i from rfl, show (bA l).data.toList = l from rfl, List.getElem?_eq_getElem h]
theorem rp_round2 (N : NR) (rd : Option Nat) (s : ByteArray) (z e m su la i r k : Int) : roundT Tryz.prog (orcNR N) noLoops 100 0 rd 74 rpLp2 rpT2 rpX2 [.s s, .i z, .i e, .i m, .i su, .i la, .i i, .i r, .i k] =
    bif decide (k < la) then chAt s i (fun c => bif strEq (N.sg k) (bytesOf [(c.toNat : Int)]) then some (.normal, [.s s, .i z, .i e, .i m, .i su, .i la, .i i, .i k, .i (wr .i64 (k + 1))], []) else some (.normal, [.s s, .i z, .i e, .i m, .i su, .i la, .i i, .i r, .i (wr .i64 (k + 1))], []))
    else some (.exit 2, [.s s, .i z, .i e, .i m, .i su, .i la, .i i, .i r], []) := by kernel_rfl
def rkD (c : UInt8) : Nat → Int
  | 0 => -1
  | n + 1 => if rU.getD n 0 = c then (n : Int) else rkD c n
theorem strEqW {a b : ByteArray} : strEq a b = true ↔ a = b := by
  rw [← strEq_eq]
  constructor
  · intro h
    have := eq_of_beq h
    apply ByteArray.ext
    apply Array.ext'
    rw [ByteArray.toList_eq, ByteArray.toList_eq] at this
    exact this
  · rintro rfl; exact beq_self_eq_true _
theorem sg_is {n : Nat} (hn : n ≤ 12) (c : UInt8) : strEq (sgB (n : Int)) (bytesOf [(c.toNat : Int)]) = decide (rU.getD n 0 = c) := by
  have e : bytesOf [(c.toNat : Int)] = bA [c] := by
    unfold bytesOf bA
    simp
  rw [sg_eq hn, e, Bool.eq_iff_iff, strEqW, decide_eq_true_eq]
  constructor
  · intro h
    have := congrArg (fun b : ByteArray => b.data.toList) h
    simpa [bA] using this
  · rintro rfl; rfl
theorem rp_loop2 (rd : Option Nat) (t : List UInt8) (z e m su : Int) (la i : Nat) (hi : i < t.length) (hla : la ≤ 13) : ∀ k : Nat, k ≤ la →
    SimC Tryz.prog 0 rd (.loop rpLp2) (rpT2.at [.s (bA t), .i z, .i e, .i m, .i su, .i (la : Int), .i (i : Int), .i (rkD t[i] k), .i (k : Int)]) (.exit 2) (rpX2.at [.s (bA t), .i z, .i e, .i m, .i su, .i (la : Int), .i (i : Int), .i (rkD t[i] la)]) := by
  refine loop_of_rounds (C := orcNR R0) (L := noLoops) (N := 100) (me := 74) (T := rpT2) (T' := rpX2) orcNR_ok mixed noLoops_ok (by kernel_rfl) (by kernel_rfl) (X := Nat)
    (fun k => [.s (bA t), .i z, .i e, .i m, .i su, .i (la : Int), .i (i : Int), .i (rkD t[i] k), .i (k : Int)]) (fun k => k ≤ la) (fun k => la - k) (fun _ => (.exit 2, [.s (bA t), .i z, .i e, .i m, .i su, .i (la : Int), .i (i : Int), .i (rkD t[i] la)])) ?_
  intro k hk
  have h := rp_round2 R0 rd (bA t) z e m su (la : Int) (i : Int) (rkD t[i] k) (k : Int)
  rcases Nat.lt_or_ge k la with hlt | hge
  · rw [decide_eq_true (show (k : Int) < (la : Int) by omega), cond_true, chAt_at hi, show R0.sg = sgB from rfl, sg_is (by omega), wrI64 (by omega) (by omega)] at h
    by_cases hb : rU.getD k 0 = t[i]
    · rw [decide_eq_true hb] at h
      refine ⟨_, _, _, h, codesE, .inl ⟨rfl, k + 1, ?_, by omega, by omega, rfl⟩⟩
      simp only [rkD]
      rw [if_pos hb]; rfl
    · rw [decide_eq_false hb] at h
      refine ⟨_, _, _, h, codesE, .inl ⟨rfl, k + 1, ?_, by omega, by omega, rfl⟩⟩
      simp only [rkD]
      rw [if_neg hb]; rfl
  · obtain rfl : k = la := by omega
    rw [decide_eq_false (show ¬ (k : Int) < (k : Int) by omega), cond_false] at h
    exact ⟨_, _, _, h, codesE, .inr ⟨by simp, rfl⟩⟩
def rpC2 (s : ByteArray) (la i r k : Int) : Bool := decide (r = -1 ∧ k = 0 ∧ 0 ≤ la ∧ la ≤ 13 ∧ 0 ≤ i ∧ i < Int.ofNat s.data.toList.length)
def rkSq (s : ByteArray) (i la : Int) : Int := rkD (s.data.toList.getD i.toNat 0) la.toNat
noncomputable def rpTree2 : List PV → Fin
  | [.s s, .i z, .i e, .i m, .i su, .i la, .i i, .i r, .i k] => .br (rpC2 s la i r k) (.leaf (.exit 2) (rpX2.at [.s s, .i z, .i e, .i m, .i su, .i la, .i i, .i (rkSq s i la)])) .no
  | _ => .no
noncomputable def rpL2 : Loops := sums (fun n => match n with | 14 => some (lsumF 0 rpT2 rpLp2 rpTree2) | _ => none)
theorem rpL2_ok : loopsOk Tryz.prog rpL2 := by
  intro n g hg
  simp only [rpL2, sums] at hg
  split at hg
  · cases hg
    refine lsumF_ok (by kernel_rfl) (fun rd ps e1 st1 hq => ?_)
    unfold rpTree2 at hq
    split at hq
    · rename_i s z e m su la i r k
      simp only [Fin.pick] at hq
      cases hc : rpC2 s la i r k with
      | false => rw [hc] at hq; cases hq
      | true =>
        rw [hc, cond_true] at hq
        cases hq
        unfold rpC2 at hc
        rw [decide_eq_true_eq] at hc
        obtain ⟨rfl, rfl, h1, h2, h3, h4⟩ := hc
        have h4 : i < (s.data.toList.length : Int) := h4
        have hi : i.toNat < s.data.toList.length := by omega
        have := rp_loop2 rd s.data.toList z e m su la.toNat i.toNat hi (by omega) 0 (Nat.zero_le _)
        rw [show ((la.toNat : Nat) : Int) = la by omega, show ((i.toNat : Nat) : Int) = i by omega] at this
        unfold rkSq
        rw [List.getD_eq_getElem?_getD, List.getElem?_eq_getElem hi, Option.getD_some]
        exact this
    · cases hq
  · cases hg
theorem rp_round1 (N : NR) (rd : Option Nat) (s : ByteArray) (z e m su la i : Int) : roundX Tryz.prog (orcNR N) rpL2 100 0 rd 74 rpLp1 rpT1 rpT1 rpE [.s s, .i z, .i e, .i m, .i su, .i la, .i i] =
    bif decide (i < Int.ofNat s.data.toList.length) then chAt s i (fun c => bif decide ((c.toNat : Int) = 46) then bif decide (wr .i64 (su - 1) < 0) then some (.ret, [.i 0, .i 40], []) else some (.normal, [.s s, .i z, .i e, .i m, .i (wr .i64 (su - 1)), .i 13, .i (wr .i64 (i + 1))], []) else
      cond (codesB [(rpLp2, rpLp2)]) (bif rpC2 s la i (-1) 0 then bif decide (rkSq s i la < 0) then some (.ret, [.i 0, .i 40], []) else bif N.bitC (wr .u8 (rIx su (rkSq s i la))) then some (.normal, [.s s, .i z, .i e, .i (wr .u64 (m + N.bit (wr .u8 (rIx su (rkSq s i la))))), .i su, .i (rkSq s i la), .i (wr .i64 (i + 1))], []) else none else none) none)
    else some (.exit 0, [.i z, .i e, .i m, .i su], []) := by kernel_rfl
end Go.Proofs.YtpalajfcffdhoaaGreatDoor.N4
