/- Chapter 2: Read, for every string. -/
import Derived.Test.YthpdeiolhahobaaDoorRead
namespace Go.Proofs.YthpdeiolhahobaaDoor
open Go Go.Eng
def tm0 (x y : Int) : Int := x * y
def tmB0 (x y : Int) : Bool := decide (x * y < 340282366920938463463374607431768211456)
def pl0 (x y : Int) : Int := x + y
def plC0 (x y : Int) : Int := (x + y) / 340282366920938463463374607431768211456
def trC0 (s c : ByteArray) : Bool := strEq c tens && decide (lenS s ≤ 9223372036854775807)
def R0 : NR := ⟨nval, w0, w1, w2, w3, inN, tm0, tmB0, pl0, plC0, trimD, trC0⟩
theorem tabR_ok : PTabOk Tryd.prog (tabR R0) := by
  refine addTab_ok ?_ (addTab_ok ?_ (addTab_ok ?_ emptyTab_ok))
  · intro args c v h hc
    unfold gTimesV at h
    split at h
    · cases h
      have hc' : (inN _ _ _ _ && inN _ _ _ _) = true := hc
      simp only [Bool.and_eq_true] at hc'
      exact times_p hc'.1 hc'.2
    · cases h
  · intro args c v h hc
    unfold gPlusV at h
    split at h
    · cases h
      have hc' : (inN _ _ _ _ && inN _ _ _ _) = true := hc
      simp only [Bool.and_eq_true] at hc'
      exact plus_p hc'.1 hc'.2
    · cases h
  · intro args c v h hc
    unfold gTrimV at h
    split at h
    · rename_i s cs
      cases h
      have hc' : (strEq cs tens && decide (lenS s ≤ 9223372036854775807)) = true := hc
      simp only [Bool.and_eq_true, decide_eq_true_eq] at hc'
      have e := strEq_iff.1 hc'.1
      subst e
      exact trim_p hc'.2
    · cases h
theorem orcR_ok : OracleOk Tryd.prog (orcR R0) := orcP_ok tabR_ok plainL_ok
theorem R0_q4 {x : Int} (h1 : 0 ≤ x) (h2 : x < 340282366920938463463374607431768211456) : R0.q4 x = x := by
  unfold NR.q4
  rw [show R0.z = nval from rfl, show R0.w0 = w0 from rfl, show R0.w1 = w1 from rfl, show R0.w2 = w2 from rfl, show R0.w3 = w3 from rfl]
  exact nval_id ⟨h1, h2⟩
theorem ten_in : inN 10 0 0 0 = true := by decide
theorem dig_word {b : UInt8} (h : isDig b = true) : wr .u32 (wr .u8 ((b.toNat : Int) - 48)) = ((b.toNat - 48 : Nat) : Int) ∧ b.toNat - 48 < 10 := by
  unfold isDig at h
  simp only [decide_eq_true_eq] at h
  refine ⟨?_, by omega⟩
  simp only [wr]; omega
theorem rd_loop (run : List UInt8 → Nat → Bool × Nat) (g1 : ∀ a, run [] a = (true, a)) (g2 : ∀ b r a, 10 * a + (b.toNat - 48) < 340282366920938463463374607431768211456 → run (b :: r) a = run r (10 * a + (b.toNat - 48)))
    (g3 : ∀ b r a, ¬ 10 * a + (b.toNat - 48) < 340282366920938463463374607431768211456 → run (b :: r) a = (false, a)) (rd : Option Nat) (s : ByteArray) (hlen : lenS s ≤ 9223372036854775807) (hdg : s.data.toList.all isDig = true) : ∀ x : List UInt8 × Nat, ((∃ q, s.data.toList = q ++ x.1) ∧ x.2 < 340282366920938463463374607431768211456) →
    SimC Tryd.prog 0 rd (.loop rdLp) (rdT.at [.s s, .i 0, .i (Int.ofNat (lenS s)), .i ((lenS s - x.1.length : Nat) : Int), .i (w0 x.2), .i (w1 x.2), .i (w2 x.2), .i (w3 x.2)])
      (bif (run x.1 x.2).1 then .exit 0 else .ret)
      (rdX.at [.i (bif (run x.1 x.2).1 then 0 else 3), .i (w0 (run x.1 x.2).2), .i (w1 (run x.1 x.2).2), .i (w2 (run x.1 x.2).2), .i (w3 (run x.1 x.2).2)]) := by
  refine loop_of_rounds (C := orcR R0) (L := noLoops) (N := 200) (me := 18) (T := rdT) (T' := rdX) orcR_ok mixed noLoops_ok (by kernel_rfl) (by kernel_rfl) (X := List UInt8 × Nat)
    (fun x => [.s s, .i 0, .i (Int.ofNat (lenS s)), .i ((lenS s - x.1.length : Nat) : Int), .i (w0 x.2), .i (w1 x.2), .i (w2 x.2), .i (w3 x.2)])
    (fun x => (∃ q, s.data.toList = q ++ x.1) ∧ x.2 < 340282366920938463463374607431768211456) (fun x => x.1.length)
    (fun x => ((bif (run x.1 x.2).1 then .exit 0 else .ret), [.i (bif (run x.1 x.2).1 then 0 else 3), .i (w0 (run x.1 x.2).2), .i (w1 (run x.1 x.2).2), .i (w2 (run x.1 x.2).2), .i (w3 (run x.1 x.2).2)])) ?_
  rintro ⟨r, a⟩ ⟨⟨q, hq⟩, ha⟩
  dsimp only at hq ha ⊢
  have hl : lenS s = q.length + r.length := by
    show s.data.toList.length = _
    rw [hq, List.length_append]
  have h := rd_round R0 rd s (Int.ofNat (lenS s)) ((lenS s - r.length : Nat) : Int) 0 (w0 a) (w1 a) (w2 a) (w3 a)
  unfold rdR at h
  rw [show R0.inn = inN from rfl, inN_w, ten_in, show R0.z = nval from rfl, nval_id ⟨by omega, by omega⟩] at h
  cases r with
  | nil =>
    rw [decide_eq_false (show ¬ ((lenS s - ([] : List UInt8).length : Nat) : Int) < Int.ofNat (lenS s) by simp)] at h
    rw [g1]
    exact ⟨_, _, _, h, codes0, .inr ⟨by simp, rfl⟩⟩
  | cons b r =>
    simp only [List.length_cons] at hl h ⊢
    have hb : s.data.toList[lenS s - (r.length + 1)]? = some b := by
      rw [show lenS s - (r.length + 1) = q.length by omega, hq, List.getElem?_append_right (Nat.le_refl _), Nat.sub_self]; rfl
    have hdb : isDig b = true := by
      have := List.all_eq_true.1 hdg b (by rw [hq]; simp)
      exact this
    obtain ⟨hw, hlt⟩ := dig_word hdb
    have hofn : Int.ofNat (lenS s) = ((lenS s : Nat) : Int) := rfl
    rw [decide_eq_true (by rw [hofn]; omega), decide_eq_true (by omega), show (((lenS s - (r.length + 1) : Nat) : Int)).toNat = lenS s - (r.length + 1) by omega, hb] at h
    rw [Bool.and_self, cond_true, cond_true, cond_true, oK_some] at h
    unfold rdK at h
    have t10 : nval 10 0 0 0 = 10 := by decide
    have e1 : R0.A10 a = 10 * (a : Int) := by
      rw [show R0.A10 = fun A => tm0 A (nval 10 0 0 0) from rfl]
      simp only [tm0, t10]; omega
    have e2 : R0.dg b = ((b.toNat - 48 : Nat) : Int) := by
      show nval (wr .u32 (wr .u8 ((b.toNat : Int) - 48))) 0 0 0 = _
      rw [hw]; unfold nval; omega
    have e3 : R0.tmB (a : Int) (R0.z 10 0 0 0) = decide (10 * (a : Int) < 340282366920938463463374607431768211456) := by
      rw [show R0.tmB = tmB0 from rfl, show R0.z = nval from rfl, t10]
      unfold tmB0
      rw [Int.mul_comm]
    have e4 : R0.inn ((b.toNat - 48 : Nat) : Int) 0 0 0 = true := by
      rw [show R0.inn = inN from rfl, inN_iff]; omega
    have e5 : ∀ x, R0.iq x = true := inN_w
    rw [e1, e2, e3, hw, e4, e5, Bool.and_self, cond_true] at h
    by_cases h1 : 10 * (a : Int) < 340282366920938463463374607431768211456
    · have e6 : R0.q4 (10 * (a : Int)) = 10 * (a : Int) := R0_q4 (by omega) h1
      rw [decide_eq_true h1, e6, show R0.plC = plC0 from rfl] at h
      by_cases h2 : 10 * a + (b.toNat - 48) < 340282366920938463463374607431768211456
      · rw [decide_eq_true (show plC0 (10 * (a : Int)) ((b.toNat - 48 : Nat) : Int) = 0 by unfold plC0; omega)] at h
        have hrun : run (b :: r) a = run r (10 * a + (b.toNat - 48)) := g2 _ _ _ h2
        rw [hrun]
        rw [show R0.pl = pl0 from rfl, show pl0 (10 * (a : Int)) ((b.toNat - 48 : Nat) : Int) = ((10 * a + (b.toNat - 48) : Nat) : Int) by unfold pl0; omega] at h
        rw [wr64 (x := ((lenS s - (r.length + 1) : Nat) : Int) + 1) (by omega) (by omega), show ((lenS s - (r.length + 1) : Nat) : Int) + 1 = ((lenS s - r.length : Nat) : Int) by omega] at h
        exact ⟨_, _, _, h, codes0, .inl ⟨rfl, (r, 10 * a + (b.toNat - 48)), rfl, ⟨⟨q ++ [b], by simp [hq]⟩, h2⟩, by simp, rfl⟩⟩
      · rw [decide_eq_false (show ¬ plC0 (10 * (a : Int)) ((b.toNat - 48 : Nat) : Int) = 0 by unfold plC0; omega)] at h
        have hrun : run (b :: r) a = (false, a) := g3 _ _ _ h2
        rw [hrun]
        exact ⟨_, _, _, h, codes0, .inr ⟨by simp, rfl⟩⟩
    · rw [decide_eq_false h1] at h
      have hrun : run (b :: r) a = (false, a) := g3 _ _ _ (by omega)
      rw [hrun]
      exact ⟨_, _, _, h, codes0, .inr ⟨by simp, rfl⟩⟩
theorem rdL_ok : loopsOk Tryd.prog rdL := by
  intro n g hg
  simp only [rdL, sums] at hg
  split at hg
  · cases hg
    refine lsumF_ok (by kernel_rfl) (fun rd ps e1 st1 hq => ?_)
    unfold rdTree at hq
    split at hq
    · rename_i s o0 n i a b c d
      simp only [Fin.pick] at hq
      cases hc : pB (o0 = 0 ∧ n = Int.ofNat (lenS s) ∧ i = 0 ∧ a = 0 ∧ b = 0 ∧ c = 0 ∧ d = 0 ∧ s.data.toList.all isDig = true ∧ lenS s ≤ 9223372036854775807) with
      | false => rw [hc] at hq; cases hq
      | true =>
        rw [hc, cond_true] at hq
        rw [pB_iff] at hc
        obtain ⟨rfl, rfl, rfl, rfl, rfl, rfl, rfl, hdg, hlen⟩ := hc
        have hl := rd_loop rdRun (fun _ => rfl) (fun b r a h => by simp only [rdRun]; rw [fits_true h]; rfl) (fun b r a h => by simp only [rdRun]; rw [fits_false h]; rfl) rd s hlen hdg (s.data.toList, 0) ⟨⟨[], rfl⟩, by dsimp only; omega⟩
        dsimp only at hl
        rw [show lenS s - s.data.toList.length = 0 by show s.data.toList.length - _ = 0; omega] at hl
        cases hr : (rdRun s.data.toList 0).1 with
        | true =>
          rw [hr, cond_true] at hq; cases hq
          rw [hr] at hl; exact hl
        | false =>
          rw [hr, cond_false] at hq; cases hq
          rw [hr] at hl; exact hl
    · cases hq
  · cases hg
/-- Whether a text is one of a number. -/
def rdOk (l : List UInt8) : Bool := match l with
  | [] => false
  | [b] => isDig b
  | b :: r => !decide (b.toNat = 48) && (isDig b && r.all isDig)
def rdV (s : ByteArray) : Int := bif rdOk s.data.toList then bif (rdRun s.data.toList 0).1 then ((rdRun s.data.toList 0).2 : Nat) else 0 else 0
def rdE (s : ByteArray) : Int := bif rdOk s.data.toList then bif (rdRun s.data.toList 0).1 then 0 else 3 else 20
theorem read_p {s : ByteArray} (hs : lenS s ≤ 9223372036854775807) : FnPure Tryd.prog 18 [.str s] (.tuple [nW (rdV s), .int .i64 (rdE s)]) := by
  refine fnPure_of_eval (N := 200) orcR_ok mixed Tryd.func18 (by kernel_rfl) rdL_ok ?_ rfl rfl
  have hcd : codesB [(rdLp, rdLp)] = true := by rw [codesB_iff]; intro x hx; simp at hx; rw [hx]
  rw [read_eval]
  have rest : rdRest R0 s = bif s.data.toList.all isDig then (bif (rdRun s.data.toList 0).1 then some (.tuple [nW (rdRun s.data.toList 0).2, .int .i64 0]) else some (.tuple [nW 0, .int .i64 3])) else bad20 := by
    unfold rdRest
    have e1 : R0.trC s tens = true := by
      rw [show R0.trC = trC0 from rfl]
      unfold trC0
      rw [strEq_iff.2 rfl, decide_eq_true hs]; rfl
    rw [e1, show R0.tr s = trimD s from rfl, trimD_nil, hcd]
    cases ha : s.data.toList.all isDig with
    | true => rw [pB_iff.2 ⟨rfl, rfl, rfl, rfl, rfl, rfl, rfl, rfl, hs⟩]; rfl
    | false => rfl
  rw [rest]
  unfold rdV rdE
  have he : strEq s ⟨#[]⟩ = decide (s.data.toList = []) := by
    rw [Bool.eq_iff_iff, strEq_iff, decide_eq_true_eq]
    cases s with
    | mk a => simp
  rw [he, show Int.ofNat (lenS s) = ((s.data.toList.length : Nat) : Int) from rfl]
  generalize s.data.toList = l
  cases l with
  | nil => rfl
  | cons b r =>
    rw [decide_eq_false (show ¬ (b :: r) = [] by simp)]
    cases r with
    | nil =>
      rw [decide_eq_false (show ¬ (1 : Int) < (([b] : List UInt8).length : Nat) by simp)]
      simp only [rdOk, List.all_cons, List.all_nil, Bool.and_true, cond_false]
      cases isDig b with
      | true => cases (rdRun [b] 0).1 <;> rfl
      | false => rfl
    | cons b2 r =>
      rw [decide_eq_true (show (1 : Int) < ((b :: b2 :: r : List UInt8).length : Nat) by simp; omega)]
      rw [show (b :: b2 :: r)[0]? = some b from rfl, oK_some]
      simp only [cond_true, cond_false, rdOk]
      by_cases h0 : b.toNat = 48
      · rw [decide_eq_true h0, decide_eq_true (show (b.toNat : Int) = 48 by omega)]; rfl
      · rw [decide_eq_false h0, decide_eq_false (show ¬ (b.toNat : Int) = 48 by omega)]
        rw [show (b :: b2 :: r).all isDig = (isDig b && (b2 :: r).all isDig) from rfl]
        cases (isDig b && (b2 :: r).all isDig) with
        | true => cases (rdRun (b :: b2 :: r) 0).1 <;> rfl
        | false => rfl
end Go.Proofs.YthpdeiolhahobaaDoor
