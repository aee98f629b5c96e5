/- Texts merged: E3, E4, E5. -/
import Derived.Test.YtpalajfcffdhoaaGreatDoorCBase
import Derived.Test.YtpalajfcffdhoaaGreatDoorTrn
/- Chapter 6, the reference: Partial, Right: their contracts. -/
namespace Go.Proofs.YtpalajfcffdhoaaGreatDoor
open Go Go.Eng Go.Deal
structure E6 where
  u : Int → Bool
  ma : Int → Int
  hk : Int → Int → Int → Int → Int → Bool
  ho : Int → Int → Int → Int → Int → Int
section
variable (E : E6)
def gMa : List V → Option (Bool × V)
  | [.int .u64 m] => some (E.u m, .int .i64 (E.ma m))
  | _ => none
def gHo : List V → Option (Bool × V)
  | [.agg [.int .u64 a, .int .u64 b, .int .u64 c, .int .u64 d], .int .i64 k] => some (E.hk a b c d k, .int .i64 (E.ho a b c d k))
  | _ => none
def tabQ : PTab := addTab 25 (gMa E) (addTab 44 (gHo E) emptyTab)
noncomputable abbrev orcQ : Oracle := orcN n6 (tabQ E) plainL
def prS (x : Int) (K : Option V) : Option V := bif !decide (x < 4503599627370496) then flsV else bif E.u x then bif decide (13 < E.ma x) then flsV else K else none
def prL (a b c d : Int) : Nat → Int → Option V
  | 0, _ => some (.bool true)
  | f + 1, i => bif E.hk a b c d i then bif decide (1 < E.ho a b c d i) then flsV else prL a b c d f (i + 1) else none
theorem rpar_eval (a b c d : Int) : evalFn Tryz.prog (orcQ E) noLoops 100 21 Tryz.f21 [q4 a b c d] [] (fun v _ => some v) = prS E a (prS E b (prS E c (prS E d (prL E a b c d 52 0)))) := by kernel_rfl
end
def e6 : E6 := ⟨in64, maI, fun a b c d k => in4 a b c d && decide (0 ≤ k ∧ k ≤ 1000), hoI⟩
theorem e6u (x : Int) : e6.u x = in64 x := rfl
theorem e6m (x : Int) : e6.ma x = maI x := rfl
theorem e6k (a b c d k : Int) : e6.hk a b c d k = (in4 a b c d && decide (0 ≤ k ∧ k ≤ 1000)) := rfl
theorem e6o (a b c d k : Int) : e6.ho a b c d k = hoI a b c d k := rfl
theorem maI_n (x : Nat) : maI (x : Int) = ((cnt x 52 : Nat) : Int) := by unfold maI; rw [Int.toNat_natCast]
theorem tabQ_ok : PTabOk Tryz.prog (tabQ e6) := by
  refine addTab_ok ?_ (addTab_ok ?_ emptyTab_ok)
  · intro args c v h hc
    unfold gMa at h; split at h
    · cases h; rw [e6u] at hc; rw [e6m]; exact many_p hc
    · cases h
  · intro args c v h hc
    unfold gHo at h; split at h
    · cases h
      rw [e6k, Bool.and_eq_true, decide_eq_true_eq] at hc
      rw [e6o]
      exact hold_p hc.1 hc.2
    · cases h
theorem prS_is {x : Nat} (hx : x < 18446744073709551616) (K : Option V) : prS e6 (x : Int) K = if x < 2 ^ 52 ∧ cnt x 52 ≤ 13 then K else flsV := by
  unfold prS
  by_cases h1 : x < 4503599627370496
  · rw [decide_eq_true (show (x : Int) < 4503599627370496 by omega), e6u, e6m, maI_n, in64_iff.2 ⟨by omega, by omega⟩]
    by_cases h2 : cnt x 52 ≤ 13
    · rw [if_pos ⟨h1, h2⟩, decide_eq_false (by omega)]; rfl
    · rw [if_neg (fun h => h2 h.2), decide_eq_true (by omega)]; rfl
  · rw [if_neg (fun h => h1 h.1), decide_eq_false (by omega)]; rfl
def hoN (a b c d i : Nat) : Nat := (if a.testBit i then 1 else 0) + (if b.testBit i then 1 else 0) + (if c.testBit i then 1 else 0) + (if d.testBit i then 1 else 0)
theorem ho_n (a b c d i : Nat) : hoI (a : Int) b c d (i : Int) = ((hoN a b c d i : Nat) : Int) := by
  unfold hoI hoN b1
  rw [Int.toNat_natCast, Int.toNat_natCast, Int.toNat_natCast, Int.toNat_natCast, Int.toNat_natCast]
  cases a.testBit i <;> cases b.testBit i <;> cases c.testBit i <;> cases d.testBit i <;> rfl
theorem hk_n {a b c d : Nat} (h : in4 (a : Int) b c d = true) {i : Nat} (hi : i ≤ 1000) : e6.hk (a : Int) b c d (i : Int) = true := by
  rw [e6k, h, decide_eq_true (show 0 ≤ (i : Int) ∧ (i : Int) ≤ 1000 by omega)]; rfl
def allB (a b c d : Nat) : Nat → Nat → Bool
  | 0, _ => true
  | f + 1, i => decide (hoN a b c d i ≤ 1) && allB a b c d f (i + 1)
theorem allB_iff (a b c d : Nat) : ∀ (f i : Nat), allB a b c d f i = true ↔ ∀ j, i ≤ j → j < i + f → hoN a b c d j ≤ 1
  | 0, i => ⟨fun _ j h1 h2 => by omega, fun _ => rfl⟩
  | f + 1, i => by
    have ih := allB_iff a b c d f (i + 1)
    rw [allB, Bool.and_eq_true, decide_eq_true_eq, ih]
    constructor
    · rintro ⟨q, H⟩ j h1 h2
      by_cases e : j = i
      · subst e; exact q
      · exact H j (by omega) (by omega)
    · intro H
      exact ⟨H i (by omega) (by omega), fun j h1 h2 => H j (by omega) (by omega)⟩
theorem prL_is {a b c d : Nat} (h : in4 (a : Int) b c d = true) : ∀ (f i : Nat), i + f ≤ 1000 → prL e6 (a : Int) b c d f (i : Int) = some (.bool (allB a b c d f i))
  | 0, i, _ => rfl
  | f + 1, i, hi => by
    have ih := prL_is h f (i + 1) (by omega)
    rw [prL, hk_n h (by omega), cond_true, e6o, ho_n, show (i : Int) + 1 = ((i + 1 : Nat) : Int) by omega, ih, allB]
    by_cases q : hoN a b c d i ≤ 1
    · rw [decide_eq_false (show ¬ (1 : Int) < ((hoN a b c d i : Nat) : Int) by omega), cond_false, decide_eq_true q, Bool.true_and]
    · rw [decide_eq_true (show (1 : Int) < ((hoN a b c d i : Nat) : Int) by omega), cond_true, decide_eq_false q, Bool.false_and]; rfl
theorem ho_part {a b c d : Nat} (ha : a < 2 ^ 52) (hb : b < 2 ^ 52) (hc : c < 2 ^ 52) (hd : d < 2 ^ 52) : (∀ j, 0 ≤ j → j < 0 + 52 → hoN a b c d j ≤ 1) ↔ (Dis a b ∧ Dis a c ∧ Dis a d ∧ Dis b c ∧ Dis b d ∧ Dis c d) := by
  constructor
  · intro H
    have key : ∀ j, hoN a b c d j ≤ 1 := fun j => by
      rcases Nat.lt_or_ge j 52 with h | h
      · exact H j (by omega) (by omega)
      · unfold hoN; rw [bit_lt ha h, bit_lt hb h, bit_lt hc h, bit_lt hd h]; decide
    refine ⟨fun j x y => ?_, fun j x y => ?_, fun j x y => ?_, fun j x y => ?_, fun j x y => ?_, fun j x y => ?_⟩ <;>
    · have := key j
      unfold hoN at this
      revert this
      rw [x, y]
      cases a.testBit j <;> cases b.testBit j <;> cases c.testBit j <;> cases d.testBit j <;> decide
  · rintro ⟨h1, h2, h3, h4, h5, h6⟩ j _ _
    have q1 := h1 j; have q2 := h2 j; have q3 := h3 j; have q4 := h4 j; have q5 := h5 j; have q6 := h6 j
    unfold hoN
    cases ha : a.testBit j <;> cases hb : b.testBit j <;> cases hc : c.testBit j <;> cases hd : d.testBit j <;> simp_all
theorem rpar_p {a b c d : Int} (h : in4 a b c d = true) : FnPure Tryz.prog 21 [q4 a b c d] (.bool (parB a b c d)) := by
  have h4 := h
  obtain ⟨a, b, c, d, rfl, rfl, rfl, rfl, ha, hb, hc, hd⟩ := in4_nat h
  refine fnPure_of_eval (N := 100) (orcN_ok tabQ_ok plainL_ok) mixed Tryz.func21 (by kernel_rfl) noLoops_ok ?_ rfl rfl
  refine (rpar_eval e6 _ _ _ _).trans ?_
  have hl := prL_is h4 52 0 (by decide)
  rw [prS_is ha, prS_is hb, prS_is hc, prS_is hd, show (0 : Int) = ((0 : Nat) : Int) from rfl, hl]
  have hq := parB_iff (a := a) (b := b) (c := c) (d := d)
  by_cases p1 : a < 2 ^ 52 ∧ cnt a 52 ≤ 13
  · by_cases p2 : b < 2 ^ 52 ∧ cnt b 52 ≤ 13
    · by_cases p3 : c < 2 ^ 52 ∧ cnt c 52 ≤ 13
      · by_cases p4 : d < 2 ^ 52 ∧ cnt d 52 ≤ 13
        · rw [if_pos p1, if_pos p2, if_pos p3, if_pos p4]
          refine congrArg (fun b => some (V.bool b)) ?_
          rw [Bool.eq_iff_iff, allB_iff, hq, ho_part p1.1 p2.1 p3.1 p4.1]
          exact ⟨fun ⟨x1, x2, x3, x4, x5, x6⟩ => ⟨p1.1, p2.1, p3.1, p4.1, p1.2, p2.2, p3.2, p4.2, x1, x2, x3, x4, x5, x6⟩, fun P => ⟨P.ab, P.ac, P.ad, P.bc, P.bd, P.cd'⟩⟩
        · rw [if_pos p1, if_pos p2, if_pos p3, if_neg p4, Bool.eq_false_iff.2 (fun h => p4 ⟨(hq.1 h).ld, (hq.1 h).cd⟩)]; rfl
      · rw [if_pos p1, if_pos p2, if_neg p3, Bool.eq_false_iff.2 (fun h => p3 ⟨(hq.1 h).lc, (hq.1 h).cc⟩)]; rfl
    · rw [if_pos p1, if_neg p2, Bool.eq_false_iff.2 (fun h => p2 ⟨(hq.1 h).lb, (hq.1 h).cb⟩)]; rfl
  · rw [if_neg p1, Bool.eq_false_iff.2 (fun h => p1 ⟨(hq.1 h).la, (hq.1 h).ca⟩)]; rfl
end Go.Proofs.YtpalajfcffdhoaaGreatDoor

/- Chapter 6, the reference: Right, one, Left, Owner: formulas over names. -/
namespace Go.Proofs.YtpalajfcffdhoaaGreatDoor
open Go Go.Eng Go.Deal
def u64s : TR := .vs [.int .u64, .int .u64, .int .u64, .int .u64]
structure E7 where
  u : Int → Bool
  u4 : Int → Int → Int → Int → Bool
  pb : Int → Int → Int → Int → Bool
  ma : Int → Int
  hk : Int → Int → Int → Int → Int → Bool
  ho : Int → Int → Int → Int → Int → Int
  kh : Int → Int → Bool
  hs : Int → Int → Bool
  ok : Int → Bool
  on : Int → Int
section
variable (E : E7)
def fMa : List V → Option (Bool × V)
  | [.int .u64 m] => some (E.u m, .int .i64 (E.ma m))
  | _ => none
def fHo : List V → Option (Bool × V)
  | [.agg [.int .u64 a, .int .u64 b, .int .u64 c, .int .u64 d], .int .i64 k] => some (E.hk a b c d k, .int .i64 (E.ho a b c d k))
  | _ => none
def fPa : List V → Option (Bool × V)
  | [.agg [.int .u64 a, .int .u64 b, .int .u64 c, .int .u64 d]] => some (E.u4 a b c d, .bool (E.pb a b c d))
  | _ => none
def fOn : List V → Option (Bool × V)
  | [.int .i64 k] => some (E.ok k, .int .u64 (E.on k))
  | _ => none
def tabF : PTab := addTab 49 (gHas E.kh E.hs) (addTab 21 (fPa E) (addTab 25 (fMa E) (addTab 44 (fHo E) (addTab 33 (fOn E) emptyTab))))
noncomputable abbrev orcF : Oracle := orcN n6 (tabF E) plainL
theorem rright_eval (a b c d : Int) : evalFn Tryz.prog (orcF E) noLoops 100 19 Tryz.f19 [q4 a b c d] [] (fun v _ => some v) =
    bif E.u4 a b c d then bif E.pb a b c d then bif E.u a then bif decide (E.ma a = 13) then bif E.u b then bif decide (E.ma b = 13) then bif E.u c then bif decide (E.ma c = 13) then bif E.u d then some (.bool (decide (E.ma d = 13))) else none else flsV else none else flsV else none else flsV else none else flsV else none := by kernel_rfl
def reS (a c : Int) (s : Int) (K : Option V) : Option V := bif E.kh a c then bif E.hs a c then some (.tuple [.int .u8 s, .bool true]) else K else none
theorem rowner_eval (a b c d k : Int) : evalFn Tryz.prog (orcF E) noLoops 100 17 Tryz.f17 [q4 a b c d, .int .i64 k] [] (fun v _ => some v) = bif decide (51 < k) then some (.tuple [.int .u8 0, .bool false]) else
    reS E a k 0 (reS E b k 1 (reS E c k 2 (reS E d k 3 (some (.tuple [.int .u8 0, .bool false]))))) := by kernel_rfl
noncomputable def lfLp : Code := loopOf 5 Tryz.f13
def lfT : Tm := ⟨mkS [(1, .ptr 0 0), (4, .int .u64), (5, .int .i64)] 0 22, [.own 23 u64s], []⟩
def lfX : Tm := ⟨mkS [(1, .ptr 0 0), (4, .int .u64)] 0 22, [.own 23 u64s], []⟩
theorem lf_round (rd : Option Nat) (m i a b c d : Int) : roundT Tryz.prog (orcF E) noLoops 100 0 rd 13 lfLp lfT lfX [.i m, .i i, .i a, .i b, .i c, .i d] =
    bif decide (i < 52) then bif E.hk a b c d i then bif decide (E.ho a b c d i = 0) then bif E.ok i then some (.normal, [.i (wr .u64 (m + E.on i)), .i (wr .i64 (i + 1)), .i a, .i b, .i c, .i d], []) else none else some (.normal, [.i m, .i (wr .i64 (i + 1)), .i a, .i b, .i c, .i d], []) else none
    else some (.exit 0, [.i m, .i a, .i b, .i c, .i d], []) := by kernel_rfl
end
theorem one_tab : (List.range 52).map (fun c : Nat => evalFn Tryz.prog (orcN n6 emptyTab plainL) noLoops 100 33 Tryz.f33 [.int .i64 (c : Int)] [] (fun v _ => some v)) = (List.range 52).map (fun c : Nat => some (.int .u64 ((2 ^ c : Nat) : Int))) := by kernel_rfl
end Go.Proofs.YtpalajfcffdhoaaGreatDoor

/- Chapter 6, the reference: Right, one, Left, Owner: their contracts. -/
namespace Go.Proofs.YtpalajfcffdhoaaGreatDoor
open Go Go.Eng Go.Deal
def onI (c : Int) : Int := ((2 ^ c.toNat : Nat) : Int)
def onK (c : Int) : Bool := decide (0 ≤ c ∧ c < 52)
theorem one_p {c : Int} (h : onK c = true) : FnPure Tryz.prog 33 [.int .i64 c] (.int .u64 (onI c)) := by
  unfold onK at h
  rw [decide_eq_true_eq] at h
  obtain ⟨k, rfl⟩ : ∃ x : Nat, c = x := ⟨c.toNat, by omega⟩
  have hq := List.map_inj_left.1 one_tab k (List.mem_range.2 (by omega))
  refine fnPure_of_eval (N := 100) (orcN_ok emptyTab_ok plainL_ok) mixed Tryz.func33 (by kernel_rfl) noLoops_ok ?_ rfl rfl
  unfold onI
  rw [Int.toNat_natCast]
  exact hq
def hkI (a b c d k : Int) : Bool := in4 a b c d && decide (0 ≤ k ∧ k ≤ 1000)
noncomputable def e7 : E7 := ⟨in64, in4, parB, maI, hkI, hoI, kHas, N4.hasB, onK, onI⟩
theorem e7u (x : Int) : e7.u x = in64 x := rfl
theorem e7u4 (a b c d : Int) : e7.u4 a b c d = in4 a b c d := rfl
theorem e7p (a b c d : Int) : e7.pb a b c d = parB a b c d := rfl
theorem e7m (x : Int) : e7.ma x = maI x := rfl
theorem e7k (a b c d k : Int) : e7.hk a b c d k = hkI a b c d k := rfl
theorem e7o (a b c d k : Int) : e7.ho a b c d k = hoI a b c d k := rfl
theorem e7kh (a k : Int) : e7.kh a k = kHas a k := rfl
theorem e7hs (a k : Int) : e7.hs a k = N4.hasB a k := rfl
theorem e7ok (k : Int) : e7.ok k = onK k := rfl
theorem e7on (k : Int) : e7.on k = onI k := rfl
theorem tabF_ok : PTabOk Tryz.prog (tabF e7) := by
  refine addTab_ok ?_ (addTab_ok ?_ (addTab_ok ?_ (addTab_ok ?_ (addTab_ok ?_ emptyTab_ok))))
  · intro args c v h hc
    unfold gHas at h; split at h
    · cases h
      rw [e7kh] at hc
      rw [e7hs]
      unfold kHas at hc
      rw [decide_eq_true_eq] at hc
      exact N4.has_p ⟨hc.1, hc.2.1⟩ hc.2.2.1 hc.2.2.2
    · cases h
  · intro args c v h hc
    unfold fPa at h; split at h
    · cases h; rw [e7u4] at hc; rw [e7p]; exact rpar_p hc
    · cases h
  · intro args c v h hc
    unfold fMa at h; split at h
    · cases h; rw [e7u] at hc; rw [e7m]; exact many_p hc
    · cases h
  · intro args c v h hc
    unfold fHo at h; split at h
    · cases h
      rw [e7k, hkI, Bool.and_eq_true, decide_eq_true_eq] at hc
      rw [e7o]
      exact hold_p hc.1 hc.2
    · cases h
  · intro args c v h hc
    unfold fOn at h; split at h
    · cases h; rw [e7ok] at hc; rw [e7on]; exact one_p hc
    · cases h
theorem orcF_ok : OracleOk Tryz.prog (orcF e7) := orcN_ok tabF_ok plainL_ok
theorem rright_p {a b c d : Int} (h : in4 a b c d = true) : FnPure Tryz.prog 19 [q4 a b c d] (.bool (rgB a b c d)) := by
  have h4 := h
  obtain ⟨a, b, c, d, rfl, rfl, rfl, rfl, ha, hb, hc, hd⟩ := in4_nat h
  refine fnPure_of_eval (N := 100) orcF_ok mixed Tryz.func19 (by kernel_rfl) noLoops_ok ?_ rfl rfl
  refine (rright_eval e7 _ _ _ _).trans ?_
  have key := rgB_iff (a := a) (b := b) (c := c) (d := d)
  have u : ∀ {x : Nat}, x < 18446744073709551616 → in64 (x : Int) = true := fun hx => in64_iff.2 ⟨by omega, by omega⟩
  rw [e7u4, h4, cond_true, e7p, e7u, e7u, e7u, e7u, u ha, u hb, u hc, u hd, cond_true, cond_true, cond_true, cond_true, e7m, e7m, e7m, e7m, maI_n, maI_n, maI_n, maI_n]
  cases hp : parB (a : Int) b c d with
  | false =>
    rw [cond_false, Bool.eq_false_iff.2 (fun h => Bool.eq_false_iff.1 hp (parB_iff.2 (key.1 h).1))]; rfl
  | true =>
    rw [cond_true]
    have P := parB_iff.1 hp
    have k13 : ∀ {x : Nat}, (decide (((x : Nat) : Int) = 13)) = decide (x = 13) := by
      intro x; rw [Bool.eq_iff_iff, decide_eq_true_eq, decide_eq_true_eq]; omega
    rw [k13, k13, k13, k13]
    by_cases r1 : cnt a 52 = 13
    · by_cases r2 : cnt b 52 = 13
      · by_cases r3 : cnt c 52 = 13
        · rw [decide_eq_true r1, decide_eq_true r2, decide_eq_true r3, cond_true, cond_true, cond_true]
          refine congrArg (fun b => some (V.bool b)) ?_
          rw [Bool.eq_iff_iff, decide_eq_true_eq, key]
          exact ⟨fun r4 => ⟨P, r1, r2, r3, r4⟩, fun r => r.ed⟩
        · rw [decide_eq_true r1, decide_eq_true r2, decide_eq_false r3, Bool.eq_false_iff.2 (fun h => r3 (key.1 h).ec)]; rfl
      · rw [decide_eq_true r1, decide_eq_false r2, Bool.eq_false_iff.2 (fun h => r2 (key.1 h).eb)]; rfl
    · rw [decide_eq_false r1, Bool.eq_false_iff.2 (fun h => r1 (key.1 h).ea)]; rfl
theorem rowner_p {a b c d k : Int} (h : in4 a b c d = true) (hk : 0 ≤ k ∧ k ≤ 1000) : FnPure Tryz.prog 17 [q4 a b c d, .int .i64 k] (.tuple [.int .u8 (owI a b c d k), .bool (owB a b c d k)]) := by
  obtain ⟨a, b, c, d, rfl, rfl, rfl, rfl, ha, hb, hc, hd⟩ := in4_nat h
  obtain ⟨k, rfl⟩ : ∃ x : Nat, k = x := ⟨k.toNat, by omega⟩
  refine fnPure_of_eval (N := 100) orcF_ok mixed Tryz.func17 (by kernel_rfl) noLoops_ok ?_ rfl rfl
  refine (rowner_eval e7 _ _ _ _ _).trans ?_
  have st : ∀ {x : Nat}, x < 18446744073709551616 → ∀ (s : Int) (K : Option V), reS e7 (x : Int) (k : Int) s K = bif x.testBit k then some (.tuple [.int .u8 s, .bool true]) else K := by
    intro x hx s K
    unfold reS
    rw [e7kh, e7hs, kHas_n hx (by omega), cond_true, hasB_n]
  unfold owI owB
  rw [st ha, st hb, st hc, st hd, Int.toNat_natCast, Int.toNat_natCast, Int.toNat_natCast, Int.toNat_natCast, Int.toNat_natCast]
  by_cases h52 : k < 52
  · rw [decide_eq_false (show ¬ (51 : Int) < (k : Int) by omega), cond_false, decide_eq_true (show (k : Int) < 52 by omega), cond_true, Bool.true_and]
    cases a.testBit k <;> cases b.testBit k <;> cases c.testBit k <;> cases d.testBit k <;> rfl
  · rw [decide_eq_true (show (51 : Int) < (k : Int) by omega), cond_true, decide_eq_false (show ¬ (k : Int) < 52 by omega)]; rfl
theorem lf_ho {a b c d : Nat} {i : Nat} (hi : i < 52) : (lf a b c d).testBit i = decide (hoN a b c d i = 0) := by
  unfold lf hoN
  rw [nd_bit, al_bit, un_bit, decide_eq_true hi]
  cases a.testBit i <;> cases b.testBit i <;> cases c.testBit i <;> cases d.testBit i <;> decide
def lfM (a b c d i : Nat) : Nat := lf a b c d % 2 ^ i
theorem lfM_s {a b c d i : Nat} (hi : i < 52) : lfM a b c d (i + 1) = if hoN a b c d i = 0 then lfM a b c d i + 2 ^ i else lfM a b c d i := by
  have h := lf_ho (a := a) (b := b) (c := c) (d := d) hi
  unfold lfM
  rw [Nat.pow_succ, Nat.mod_mul]
  rw [Nat.testBit_eq_decide_div_mod_eq, Bool.eq_iff_iff, decide_eq_true_eq, decide_eq_true_eq] at h
  by_cases q : hoN a b c d i = 0
  · rw [if_pos q, h.2 q, Nat.mul_one]
  · rw [if_neg q, show lf a b c d / 2 ^ i % 2 = 0 by (have := fun e => q (h.1 e); omega), Nat.mul_zero, Nat.add_zero]
theorem lfM_lt (a b c d : Nat) {i : Nat} (hi : i < 52) : lfM a b c d i + 2 ^ i < 18446744073709551616 := by
  have h1 : lfM a b c d i < 2 ^ i := Nat.mod_lt _ (Nat.two_pow_pos i)
  have hp : 2 ^ i ≤ 2 ^ 52 := Nat.pow_le_pow_right (by decide) (by omega)
  have hp2 : (2 : Nat) ^ 52 = 4503599627370496 := by decide
  omega
theorem lfM_0 (a b c d : Nat) : lfM a b c d 0 = 0 := Nat.mod_one _
theorem lfM_e (a b c d : Nat) : lfM a b c d 52 = lf a b c d := Nat.mod_eq_of_lt (sub_lt (nd_sub _ _) (by decide))
theorem lf_loop (rd : Option Nat) {a b c d : Nat} (h4 : in4 (a : Int) b c d = true) (M : Nat → Nat) (hM : ∀ i, i < 52 → M (i + 1) = if hoN a b c d i = 0 then M i + 2 ^ i else M i) (hL : ∀ i, i < 52 → M i + 2 ^ i < 18446744073709551616) (e : Nat) (he : e = 52) : ∀ i : Nat, i ≤ e →
    SimC Tryz.prog 0 rd (.loop lfLp) (lfT.at [.i ((M i : Nat) : Int), .i (i : Int), .i (a : Int), .i (b : Int), .i (c : Int), .i (d : Int)]) (.exit 0) (lfX.at [.i ((M e : Nat) : Int), .i (a : Int), .i (b : Int), .i (c : Int), .i (d : Int)]) := by
  refine loop_of_rounds (C := orcF e7) (L := noLoops) (N := 100) (me := 13) (T := lfT) (T' := lfX) orcF_ok mixed noLoops_ok (by kernel_rfl) (by kernel_rfl) (X := Nat)
    (fun i => [.i ((M i : Nat) : Int), .i (i : Int), .i (a : Int), .i (b : Int), .i (c : Int), .i (d : Int)]) (fun i => i ≤ e) (fun i => e - i) (fun _ => (.exit 0, [.i ((M e : Nat) : Int), .i (a : Int), .i (b : Int), .i (c : Int), .i (d : Int)])) ?_
  intro i hi
  have hge : ¬ i < 52 → i = e := fun q => Nat.le_antisymm hi (by rw [he]; exact Nat.le_of_not_lt q)
  have h := lf_round e7 rd ((M i : Nat) : Int) (i : Int) (a : Int) (b : Int) (c : Int) (d : Int)
  by_cases hlt : i < 52
  · have hk : e7.hk (a : Int) b c d (i : Int) = true := by
      rw [e7k, hkI, h4, decide_eq_true (show 0 ≤ (i : Int) ∧ (i : Int) ≤ 1000 by omega)]; rfl
    rw [decide_eq_true (show (i : Int) < 52 by omega), cond_true, hk, cond_true, e7o, ho_n, e7ok, show onK (i : Int) = true by (unfold onK; rw [decide_eq_true_eq]; omega), cond_true, e7on, wr64 (x := (i : Int) + 1) (by omega) (by omega)] at h
    have hm := hM i hlt
    have hl := hL i hlt
    by_cases hz : hoN a b c d i = 0
    · rw [decide_eq_true (show ((hoN a b c d i : Nat) : Int) = 0 by omega), cond_true] at h
      rw [if_pos hz] at hm
      unfold onI at h
      have hl2 : M (i + 1) < 18446744073709551616 := by rw [hm]; exact hl
      rw [Int.toNat_natCast, ← Int.natCast_add, ← hm, Deal.wrU hl2] at h
      exact ⟨_, _, _, h, codesNil, .inl ⟨rfl, i + 1, rfl, by omega, by omega, rfl⟩⟩
    · rw [decide_eq_false (show ¬ ((hoN a b c d i : Nat) : Int) = 0 by omega), cond_false] at h
      rw [if_neg hz] at hm
      exact ⟨_, _, _, h, codesNil, .inl ⟨rfl, i + 1, by rw [hm]; rfl, by omega, by omega, rfl⟩⟩
  · have hie : i = e := hge hlt
    have h52 : ¬ ((e : Nat) : Int) < 52 := by rw [← hie]; omega
    rw [hie]
    rw [hie, decide_eq_false h52, cond_false] at h
    exact ⟨_, _, _, h, codesNil, .inr ⟨(fun h => by cases h), rfl⟩⟩
def lfC (m i a b c d : Int) : Bool := decide (m = 0 ∧ i = 0) && in4 a b c d
noncomputable def lfTr : List PV → Fin
  | [.i m, .i i, .i a, .i b, .i c, .i d] => .br (lfC m i a b c d) (.leaf (.exit 0) (lfX.at [.i ((lf a.toNat b.toNat c.toNat d.toNat : Nat) : Int), .i a, .i b, .i c, .i d])) .no
  | _ => .no
noncomputable def lfL : Loops := sums (fun n => match n with | 5 => some (lsumF 0 lfT lfLp lfTr) | _ => none)
theorem lfL_ok : loopsOk Tryz.prog lfL := by
  intro n g hg
  simp only [lfL, sums] at hg
  split at hg
  · cases hg
    refine lsumF_ok (by kernel_rfl) (fun rd ps e1 s1 h => ?_)
    unfold lfTr at h
    split at h
    · rename_i m i a b c d
      simp only [Fin.pick] at h
      cases hc : lfC m i a b c d with
      | false => rw [hc] at h; cases h
      | true =>
        rw [hc, cond_true] at h
        unfold lfC at hc
        rw [Bool.and_eq_true, decide_eq_true_eq] at hc
        obtain ⟨⟨rfl, rfl⟩, h4⟩ := hc
        have h5 := h4
        obtain ⟨a, b, c, d, rfl, rfl, rfl, rfl, ha, hb, hc, hd⟩ := in4_nat h4
        have hl := lf_loop rd h5 (lfM a b c d) (fun _ h => lfM_s h) (fun _ h => lfM_lt a b c d h) 52 rfl 0 (by omega)
        rw [lfM_0, lfM_e] at hl
        rw [Int.toNat_natCast, Int.toNat_natCast, Int.toNat_natCast, Int.toNat_natCast] at h
        cases h
        exact hl
    · cases h
  · cases hg
theorem rleft_eval (E : E7) (a b c d : Int) : evalFn Tryz.prog (orcF E) lfL 100 13 Tryz.f13 [q4 a b c d] [] (fun v _ => some v) =
    bif E.u4 a b c d then bif !E.pb a b c d then some (.tuple [.int .u64 0, .int .i64 60]) else cond (codesB [(lfLp, lfLp)]) (bif lfC 0 0 a b c d then some (.tuple [.int .u64 ((lf a.toNat b.toNat c.toNat d.toNat : Nat) : Int), .int .i64 0]) else none) none else none := by kernel_rfl
theorem rleft_p {a b c d : Int} (h : in4 a b c d = true) : FnPure Tryz.prog 13 [q4 a b c d] (.tuple [.int .u64 (lfI a b c d), .int .i64 (leI a b c d)]) := by
  refine fnPure_of_eval (N := 100) orcF_ok mixed Tryz.func13 (by kernel_rfl) lfL_ok ?_ rfl rfl
  refine (rleft_eval e7 _ _ _ _).trans ?_
  rw [e7u4, h, cond_true, e7p, codesD, cond_true, show lfC 0 0 a b c d = true by (unfold lfC; rw [h]; rfl), cond_true]
  unfold lfI leI
  cases parB a b c d <;> rfl
end Go.Proofs.YtpalajfcffdhoaaGreatDoor
