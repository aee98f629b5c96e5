/- Texts merged: E3, E4. -/
import Derived.Test.YtpalajfcffdhoaaGreatCBase
import Derived.Test.YtpalajfcffdhoaaGreatBcf
/- Chapter 6, the reference: Partial, Right: their contracts. -/
namespace Go.Proofs.YtpalajfcffdhoaaGreat
open Go Go.Eng Go.Deal
structure E6 where
  u : Int → Bool
  ma : Int → Int
  hk : Int → Int → Int → Int → Int → Bool
  ho : Int → Int → Int → Int → Int → Int
section
variable (E : E6)
def gMa : List V → Option (Bool × V)
  | [.int .u64 m] => some (E.u m, .int .i64 (E.ma m))
  | _ => none
def gHo : List V → Option (Bool × V)
  | [.agg [.int .u64 a, .int .u64 b, .int .u64 c, .int .u64 d], .int .i64 k] => some (E.hk a b c d k, .int .i64 (E.ho a b c d k))
  | _ => none
def tabQ : PTab := addTab 40 (gMa E) (addTab 69 (gHo E) emptyTab)
noncomputable abbrev orcQ : Oracle := orcN n6 (tabQ E) plainL
def prS (x : Int) (K : Option V) : Option V := bif !decide (x < 4503599627370496) then flsV else bif E.u x then bif decide (13 < E.ma x) then flsV else K else none
def prL (a b c d : Int) : Nat → Int → Option V
  | 0, _ => some (.bool true)
  | f + 1, i => bif E.hk a b c d i then bif decide (1 < E.ho a b c d i) then flsV else prL a b c d f (i + 1) else none
theorem rpar_eval (a b c d : Int) : evalFn Tryz.prog (orcQ E) noLoops 100 58 Tryz.f58 [q4 a b c d] [] (fun v _ => some v) = prS E a (prS E b (prS E c (prS E d (prL E a b c d 52 0)))) := by kernel_rfl
end
def e6 : E6 := ⟨in64, maI, fun a b c d k => in4 a b c d && decide (0 ≤ k ∧ k ≤ 1000), hoI⟩
theorem e6u (x : Int) : e6.u x = in64 x := rfl
theorem e6m (x : Int) : e6.ma x = maI x := rfl
theorem e6k (a b c d k : Int) : e6.hk a b c d k = (in4 a b c d && decide (0 ≤ k ∧ k ≤ 1000)) := rfl
theorem e6o (a b c d k : Int) : e6.ho a b c d k = hoI a b c d k := rfl
theorem maI_n (x : Nat) : maI (x : Int) = ((cnt x 52 : Nat) : Int) := by unfold maI; rw [Int.toNat_natCast]
theorem tabQ_ok : PTabOk Tryz.prog (tabQ e6) := by
  refine addTab_ok ?_ (addTab_ok ?_ emptyTab_ok)
  · intro args c v h hc
    unfold gMa at h; split at h
    · cases h; rw [e6u] at hc; rw [e6m]; exact many_p hc
    · cases h
  · intro args c v h hc
    unfold gHo at h; split at h
    · cases h
      rw [e6k, Bool.and_eq_true, decide_eq_true_eq] at hc
      rw [e6o]
      exact hold_p hc.1 hc.2
    · cases h
theorem prS_is {x : Nat} (hx : x < 18446744073709551616) (K : Option V) : prS e6 (x : Int) K = if x < 2 ^ 52 ∧ cnt x 52 ≤ 13 then K else flsV := by
  unfold prS
  by_cases h1 : x < 4503599627370496
  · rw [decide_eq_true (show (x : Int) < 4503599627370496 by omega), e6u, e6m, maI_n, in64_iff.2 ⟨by omega, by omega⟩]
    by_cases h2 : cnt x 52 ≤ 13
    · rw [if_pos ⟨h1, h2⟩, decide_eq_false (by omega)]; rfl
    · rw [if_neg (fun h => h2 h.2), decide_eq_true (by omega)]; rfl
  · rw [if_neg (fun h => h1 h.1), decide_eq_false (by omega)]; rfl
def hoN (a b c d i : Nat) : Nat := (if a.testBit i then 1 else 0) + (if b.testBit i then 1 else 0) + (if c.testBit i then 1 else 0) + (if d.testBit i then 1 else 0)
theorem ho_n (a b c d i : Nat) : hoI (a : Int) b c d (i : Int) = ((hoN a b c d i : Nat) : Int) := by
  unfold hoI hoN b1
  rw [Int.toNat_natCast, Int.toNat_natCast, Int.toNat_natCast, Int.toNat_natCast, Int.toNat_natCast]
  cases a.testBit i <;> cases b.testBit i <;> cases c.testBit i <;> cases d.testBit i <;> rfl
theorem hk_n {a b c d : Nat} (h : in4 (a : Int) b c d = true) {i : Nat} (hi : i ≤ 1000) : e6.hk (a : Int) b c d (i : Int) = true := by
  rw [e6k, h, decide_eq_true (show 0 ≤ (i : Int) ∧ (i : Int) ≤ 1000 by omega)]; rfl
def allB (a b c d : Nat) : Nat → Nat → Bool
  | 0, _ => true
  | f + 1, i => decide (hoN a b c d i ≤ 1) && allB a b c d f (i + 1)
theorem allB_iff (a b c d : Nat) : ∀ (f i : Nat), allB a b c d f i = true ↔ ∀ j, i ≤ j → j < i + f → hoN a b c d j ≤ 1
  | 0, i => ⟨fun _ j h1 h2 => by omega, fun _ => rfl⟩
  | f + 1, i => by
    have ih := allB_iff a b c d f (i + 1)
    rw [allB, Bool.and_eq_true, decide_eq_true_eq, ih]
    constructor
    · rintro ⟨q, H⟩ j h1 h2
      by_cases e : j = i
      · subst e; exact q
      · exact H j (by omega) (by omega)
    · intro H
      exact ⟨H i (by omega) (by omega), fun j h1 h2 => H j (by omega) (by omega)⟩
theorem prL_is {a b c d : Nat} (h : in4 (a : Int) b c d = true) : ∀ (f i : Nat), i + f ≤ 1000 → prL e6 (a : Int) b c d f (i : Int) = some (.bool (allB a b c d f i))
  | 0, i, _ => rfl
  | f + 1, i, hi => by
    have ih := prL_is h f (i + 1) (by omega)
    rw [prL, hk_n h (by omega), cond_true, e6o, ho_n, show (i : Int) + 1 = ((i + 1 : Nat) : Int) by omega, ih, allB]
    by_cases q : hoN a b c d i ≤ 1
    · rw [decide_eq_false (show ¬ (1 : Int) < ((hoN a b c d i : Nat) : Int) by omega), cond_false, decide_eq_true q, Bool.true_and]
    · rw [decide_eq_true (show (1 : Int) < ((hoN a b c d i : Nat) : Int) by omega), cond_true, decide_eq_false q, Bool.false_and]; rfl
theorem ho_part {a b c d : Nat} (ha : a < 2 ^ 52) (hb : b < 2 ^ 52) (hc : c < 2 ^ 52) (hd : d < 2 ^ 52) : (∀ j, 0 ≤ j → j < 0 + 52 → hoN a b c d j ≤ 1) ↔ (Dis a b ∧ Dis a c ∧ Dis a d ∧ Dis b c ∧ Dis b d ∧ Dis c d) := by
  constructor
  · intro H
    have key : ∀ j, hoN a b c d j ≤ 1 := fun j => by
      rcases Nat.lt_or_ge j 52 with h | h
      · exact H j (by omega) (by omega)
      · unfold hoN; rw [bit_lt ha h, bit_lt hb h, bit_lt hc h, bit_lt hd h]; decide
    refine ⟨fun j x y => ?_, fun j x y => ?_, fun j x y => ?_, fun j x y => ?_, fun j x y => ?_, fun j x y => ?_⟩ <;>
    · have := key j
      unfold hoN at this
      revert this
      rw [x, y]
      cases a.testBit j <;> cases b.testBit j <;> cases c.testBit j <;> cases d.testBit j <;> decide
  · rintro ⟨h1, h2, h3, h4, h5, h6⟩ j _ _
    have q1 := h1 j; have q2 := h2 j; have q3 := h3 j; have q4 := h4 j; have q5 := h5 j; have q6 := h6 j
    unfold hoN
    cases ha : a.testBit j <;> cases hb : b.testBit j <;> cases hc : c.testBit j <;> cases hd : d.testBit j <;> simp_all
theorem rpar_p {a b c d : Int} (h : in4 a b c d = true) : FnPure Tryz.prog 58 [q4 a b c d] (.bool (parB a b c d)) := by
  have h4 := h
  obtain ⟨a, b, c, d, rfl, rfl, rfl, rfl, ha, hb, hc, hd⟩ := in4_nat h
  refine fnPure_of_eval (N := 100) (orcN_ok tabQ_ok plainL_ok) mixed Tryz.func58 (by kernel_rfl) noLoops_ok ?_ rfl rfl
  refine (rpar_eval e6 _ _ _ _).trans ?_
  have hl := prL_is h4 52 0 (by decide)
  rw [prS_is ha, prS_is hb, prS_is hc, prS_is hd, show (0 : Int) = ((0 : Nat) : Int) from rfl, hl]
  have hq := parB_iff (a := a) (b := b) (c := c) (d := d)
  by_cases p1 : a < 2 ^ 52 ∧ cnt a 52 ≤ 13
  · by_cases p2 : b < 2 ^ 52 ∧ cnt b 52 ≤ 13
    · by_cases p3 : c < 2 ^ 52 ∧ cnt c 52 ≤ 13
      · by_cases p4 : d < 2 ^ 52 ∧ cnt d 52 ≤ 13
        · rw [if_pos p1, if_pos p2, if_pos p3, if_pos p4]
          refine congrArg (fun b => some (V.bool b)) ?_
          rw [Bool.eq_iff_iff, allB_iff, hq, ho_part p1.1 p2.1 p3.1 p4.1]
          exact ⟨fun ⟨x1, x2, x3, x4, x5, x6⟩ => ⟨p1.1, p2.1, p3.1, p4.1, p1.2, p2.2, p3.2, p4.2, x1, x2, x3, x4, x5, x6⟩, fun P => ⟨P.ab, P.ac, P.ad, P.bc, P.bd, P.cd'⟩⟩
        · rw [if_pos p1, if_pos p2, if_pos p3, if_neg p4, Bool.eq_false_iff.2 (fun h => p4 ⟨(hq.1 h).ld, (hq.1 h).cd⟩)]; rfl
      · rw [if_pos p1, if_pos p2, if_neg p3, Bool.eq_false_iff.2 (fun h => p3 ⟨(hq.1 h).lc, (hq.1 h).cc⟩)]; rfl
    · rw [if_pos p1, if_neg p2, Bool.eq_false_iff.2 (fun h => p2 ⟨(hq.1 h).lb, (hq.1 h).cb⟩)]; rfl
  · rw [if_neg p1, Bool.eq_false_iff.2 (fun h => p1 ⟨(hq.1 h).la, (hq.1 h).ca⟩)]; rfl
end Go.Proofs.YtpalajfcffdhoaaGreat

/- Chapter 6, the reference: Right, one, Left, Owner: formulas over names. -/
namespace Go.Proofs.YtpalajfcffdhoaaGreat
open Go Go.Eng Go.Deal
def u64s : TR := .vs [.int .u64, .int .u64, .int .u64, .int .u64]
structure E7 where
  u : Int → Bool
  u4 : Int → Int → Int → Int → Bool
  pb : Int → Int → Int → Int → Bool
  ma : Int → Int
  hk : Int → Int → Int → Int → Int → Bool
  ho : Int → Int → Int → Int → Int → Int
  kh : Int → Int → Bool
  hs : Int → Int → Bool
  ok : Int → Bool
  on : Int → Int
section
variable (E : E7)
def fMa : List V → Option (Bool × V)
  | [.int .u64 m] => some (E.u m, .int .i64 (E.ma m))
  | _ => none
def fHo : List V → Option (Bool × V)
  | [.agg [.int .u64 a, .int .u64 b, .int .u64 c, .int .u64 d], .int .i64 k] => some (E.hk a b c d k, .int .i64 (E.ho a b c d k))
  | _ => none
def fPa : List V → Option (Bool × V)
  | [.agg [.int .u64 a, .int .u64 b, .int .u64 c, .int .u64 d]] => some (E.u4 a b c d, .bool (E.pb a b c d))
  | _ => none
def fOn : List V → Option (Bool × V)
  | [.int .i64 k] => some (E.ok k, .int .u64 (E.on k))
  | _ => none
def tabF : PTab := addTab 60 (gHas E.kh E.hs) (addTab 58 (fPa E) (addTab 40 (fMa E) (addTab 69 (fHo E) (addTab 52 (fOn E) emptyTab))))
noncomputable abbrev orcF : Oracle := orcN n6 (tabF E) plainL
theorem rright_eval (a b c d : Int) : evalFn Tryz.prog (orcF E) noLoops 100 59 Tryz.f59 [q4 a b c d] [] (fun v _ => some v) =
    bif E.u4 a b c d then bif E.pb a b c d then bif E.u a then bif decide (E.ma a = 13) then bif E.u b then bif decide (E.ma b = 13) then bif E.u c then bif decide (E.ma c = 13) then bif E.u d then some (.bool (decide (E.ma d = 13))) else none else flsV else none else flsV else none else flsV else none else flsV else none := by kernel_rfl
def reS (a c : Int) (s : Int) (K : Option V) : Option V := bif E.kh a c then bif E.hs a c then some (.tuple [.int .u8 s, .bool true]) else K else none
noncomputable def lfLp : Code := loopOf 5 Tryz.f38
def lfT : Tm := ⟨mkS [(1, .ptr 0 0), (4, .int .u64), (5, .int .i64)] 0 22, [.own 23 u64s], []⟩
def lfX : Tm := ⟨mkS [(1, .ptr 0 0), (4, .int .u64)] 0 22, [.own 23 u64s], []⟩
theorem lf_round (rd : Option Nat) (m i a b c d : Int) : roundT Tryz.prog (orcF E) noLoops 100 0 rd 38 lfLp lfT lfX [.i m, .i i, .i a, .i b, .i c, .i d] =
    bif decide (i < 52) then bif E.hk a b c d i then bif decide (E.ho a b c d i = 0) then bif E.ok i then some (.normal, [.i (wr .u64 (m + E.on i)), .i (wr .i64 (i + 1)), .i a, .i b, .i c, .i d], []) else none else some (.normal, [.i m, .i (wr .i64 (i + 1)), .i a, .i b, .i c, .i d], []) else none
    else some (.exit 0, [.i m, .i a, .i b, .i c, .i d], []) := by kernel_rfl
end
theorem one_tab : (List.range 52).map (fun c : Nat => evalFn Tryz.prog (orcN n6 emptyTab plainL) noLoops 100 52 Tryz.f52 [.int .i64 (c : Int)] [] (fun v _ => some v)) = (List.range 52).map (fun c : Nat => some (.int .u64 ((2 ^ c : Nat) : Int))) := by kernel_rfl
end Go.Proofs.YtpalajfcffdhoaaGreat
