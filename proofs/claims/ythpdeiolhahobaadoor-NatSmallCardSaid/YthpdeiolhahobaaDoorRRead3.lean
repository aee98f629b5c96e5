/- Texts merged: RRead3, Text. -/
import Derived.Test.YthpdeiolhahobaaDoorRRead
import Derived.Test.YthpdeiolhahobaaDoorRead2
import Derived.Test.YthpdeiolhahobaaDoorDg
/- Chapter 2, the reference: Read, for every string of at most 999999 bytes. -/
namespace Go.Proofs.YthpdeiolhahobaaDoor
open Go Go.Eng
def rrZ (s : ByteArray) : List Int := (rrW s.data.toList.reverse []).2
def rrZt (s : ByteArray) : List Int := List.take (tz (rrZ s)).length (rrZ s)
noncomputable def rrRest (N E : Int → Int) (ok : List Int → Bool) (vl : List Int → Int) (s : ByteArray) : Option V :=
  cond (codesB [(rrLp, rrLp)]) (bif decide ((0 : Int) = 0 ∧ wr .i64 (Int.ofNat (lenS s) - 1) = Int.ofNat (lenS s) - 1 ∧ 0 = 0 ∧ lenS s ≤ 999999) then
    bif (rrW s.data.toList.reverse []).1 then bif decide ((rrZ s).length ≤ 9223372036854775807) then bif ok (rrZt s) then some (.tuple [nW (N (vl (rrZt s))), .int .i64 (E (vl (rrZt s)))]) else none else none else bad20 else none) none
theorem rread_eval (N E : Int → Int) (ok : List Int → Bool) (vl : List Int → Int) (s : ByteArray) : evalFn Tryd.prog (orcQ (addH 47 (gParts N E ok vl) emptyH)) rrL 200 29 Tryd.f29 [.str s] [] (fun v _ => some v) =
    bif decide (Int.ofNat (lenS s) = 0) then bad20 else bif decide (1 < Int.ofNat (lenS s)) then oK s.data.toList[0]? (fun b => bif decide ((b.toNat : Int) = 48) then bad20 else rrRest N E ok vl s) else rrRest N E ok vl s := by kernel_rfl
/-! ### Plain facts -/
def dgB (b : UInt8) : Int := ((b.toNat - 48 : Nat) : Int)
theorem rrW_all : ∀ (l : List UInt8) (zs : List Int), (rrW l zs).1 = l.all isDig ∧ (l.all isDig = true → (rrW l zs).2 = zs ++ l.map dgB)
  | [], zs => ⟨rfl, fun _ => by simp [rrW]⟩
  | b :: r, zs => by
    simp only [rrW, List.all_cons]
    cases hb : isDig b with
    | false => exact ⟨rfl, fun h => by simp at h⟩
    | true =>
      obtain ⟨h1, h2⟩ := rrW_all r (zs ++ [((b.toNat - 48 : Nat) : Int)])
      refine ⟨by rw [cond_true, h1, Bool.true_and], fun h => ?_⟩
      rw [cond_true, h2 (by simpa using h), List.append_assoc]; rfl
def hv : List UInt8 → Nat → Nat
  | [], a => a
  | b :: r, a => hv r (10 * a + (b.toNat - 48))
theorem hv_ge : ∀ (l : List UInt8) (a : Nat), a ≤ hv l a
  | [], _ => Nat.le_refl _
  | b :: r, a => by rw [hv]; exact Nat.le_trans (by omega) (hv_ge r _)
theorem val_snoc (d : Int) : ∀ l : List Int, val (l ++ [d]) = val l + 10 ^ l.length * d
  | [] => by simp [val]
  | x :: l => by
    simp only [List.cons_append, val, val_snoc d l, List.length_cons, Int.pow_succ, Int.mul_add]
    rw [show (10 : Int) ^ l.length * 10 * d = 10 * (10 ^ l.length * d) by rw [Int.mul_comm ((10 : Int) ^ l.length) 10, Int.mul_assoc]]
    omega
theorem val_hv : ∀ (l : List UInt8) (a : Nat), val (l.reverse.map dgB) + 10 ^ l.length * (a : Int) = (hv l a : Nat)
  | [], a => by simp [val, hv]
  | b :: r, a => by
    rw [hv, ← val_hv r (10 * a + (b.toNat - 48)), List.reverse_cons, List.map_append, show [b].map dgB = [dgB b] from rfl, val_snoc, List.length_map, List.length_reverse, List.length_cons, Int.pow_succ]
    rw [show (((10 * a + (b.toNat - 48) : Nat)) : Int) = 10 * (a : Int) + dgB b by unfold dgB; omega, Int.mul_add, Int.mul_assoc]
    omega
theorem rdRun_hv : ∀ (l : List UInt8) (a : Nat), a < 340282366920938463463374607431768211456 → (hv l a < 340282366920938463463374607431768211456 → rdRun l a = (true, hv l a)) ∧ (¬ hv l a < 340282366920938463463374607431768211456 → (rdRun l a).1 = false)
  | [], a, h => ⟨fun _ => rfl, fun hn => absurd h hn⟩
  | b :: r, a, h => by
    simp only [rdRun, hv]
    by_cases hf : 10 * a + (b.toNat - 48) < 340282366920938463463374607431768211456
    · rw [fits_true hf, cond_true]
      exact rdRun_hv r _ hf
    · rw [fits_false hf, cond_false]
      have := hv_ge r (10 * a + (b.toNat - 48))
      exact ⟨fun hn => by omega, fun _ => rfl⟩
theorem dig_map : ∀ l : List UInt8, l.all isDig = true → dig (l.map dgB) = true
  | [], _ => rfl
  | b :: r, h => by
    rw [List.all_cons, Bool.and_eq_true] at h
    rw [List.map_cons, dig_cons]
    have := h.1
    unfold isDig at this
    rw [decide_eq_true_eq] at this
    refine ⟨by unfold dgB; omega, dig_map r h.2⟩
theorem hTabQ_ok : HTabOk Tryd.prog (addH 47 (gParts ptZ ptE okP val) emptyH) := by
  refine addH_ok ?_ emptyH_ok
  intro args h c v nb hq hc
  unfold gParts at hq
  split at hq
  · rename_i n1 xs
    cases hq; exact ⟨.of Tryd.func47 (by kernel_rfl), parts_fn n1 hc⟩
  · cases hq
theorem orcQ_ok {HT : HTab} (hT : HTabOk Tryd.prog HT) : OracleOk Tryd.prog (orcQ HT) := inl_ok (orElse_ok (resOrc_ok rTab_ok) (hOrcP_ok hT)) ftab_ok tabA_ok plainL_ok mixed 20
theorem rrRest_eq {s : ByteArray} (hs : lenS s ≤ 999999) (h0 : 0 < lenS s) : rrRest ptZ ptE okP val s = bif s.data.toList.all isDig then (bif (rdRun s.data.toList 0).1 then some (.tuple [nW (rdRun s.data.toList 0).2, .int .i64 0]) else some (.tuple [nW 0, .int .i64 3])) else bad20 := by
  have hcd : codesB [(rrLp, rrLp)] = true := by rw [codesB_iff]; intro x hx; simp at hx; rw [hx]
  have hwr : wr .i64 (Int.ofNat (lenS s) - 1) = Int.ofNat (lenS s) - 1 := by
    rw [show Int.ofNat (lenS s) = ((lenS s : Nat) : Int) from rfl]
    exact wr64 (by omega) (by omega)
  unfold rrRest
  rw [hcd, decide_eq_true ⟨rfl, hwr, rfl, hs⟩, cond_true, cond_true]
  obtain ⟨h1, h2⟩ := rrW_all s.data.toList.reverse []
  rw [h1, List.all_reverse]
  cases ha : s.data.toList.all isDig with
  | false => rfl
  | true =>
    rw [cond_true, cond_true]
    have hz : rrZ s = s.data.toList.reverse.map dgB := by
      unfold rrZ
      rw [h2 (by rw [List.all_reverse]; exact ha), List.nil_append]
    have hd : dig (rrZ s) = true := by rw [hz]; exact dig_map _ (by rw [List.all_reverse]; exact ha)
    have hlen : (rrZ s).length = lenS s := by rw [hz, List.length_map, List.length_reverse]; rfl
    have ht : rrZt s = tz (rrZ s) := by unfold rrZt; exact (tz_prefix _).symm
    have hv0 : val (rrZ s) = (hv s.data.toList 0 : Nat) := by
      rw [hz, ← val_hv s.data.toList 0]; omega
    have htz : rrZt s = D (hv s.data.toList 0) := by rw [ht, tz_val hd, hv0]; rfl
    have hle : (rrZt s).length ≤ 999999 := by rw [ht]; have := tz_le (rrZ s); omega
    have hok : okP (rrZt s) = true := by
      unfold okP
      rw [decide_eq_true hle, htz, isD_D]; rfl
    rw [decide_eq_true (by omega), cond_true, hok, cond_true, htz, val_D]
    unfold ptZ ptE
    obtain ⟨r1, r2⟩ := rdRun_hv s.data.toList 0 (by omega)
    by_cases hM : hv s.data.toList 0 < 340282366920938463463374607431768211456
    · rw [r1 hM, decide_eq_true (by omega)]; rfl
    · rw [r2 hM, decide_eq_false (by omega)]; rfl
theorem rread_p {s : ByteArray} (hs : lenS s ≤ 999999) : FnPure Tryd.prog 29 [.str s] (.tuple [nW (rdV s), .int .i64 (rdE s)]) := by
  refine fnPure_of_eval (N := 200) (orcQ_ok hTabQ_ok) mixed Tryd.func29 (by kernel_rfl) rrL_ok ?_ rfl rfl
  rw [rread_eval]
  unfold rdV rdE
  by_cases h0 : 0 < lenS s
  · have rest := rrRest_eq hs h0
    rw [rest, decide_eq_false (show ¬ Int.ofNat (lenS s) = 0 by rw [show Int.ofNat (lenS s) = ((lenS s : Nat) : Int) from rfl]; omega), cond_false]
    rw [show Int.ofNat (lenS s) = ((s.data.toList.length : Nat) : Int) from rfl]
    replace h0 : 0 < s.data.toList.length := h0
    clear rest hs
    generalize s.data.toList = l at h0
    cases l with
    | nil => simp at h0
    | cons b r =>
      cases r with
      | nil =>
        rw [decide_eq_false (show ¬ (1 : Int) < (([b] : List UInt8).length : Nat) by simp)]
        simp only [rdOk, List.all_cons, List.all_nil, Bool.and_true, cond_false]
        cases isDig b with
        | true => cases (rdRun [b] 0).1 <;> rfl
        | false => rfl
      | cons b2 r =>
        rw [decide_eq_true (show (1 : Int) < ((b :: b2 :: r : List UInt8).length : Nat) by simp; omega)]
        rw [show (b :: b2 :: r)[0]? = some b from rfl, oK_some]
        simp only [cond_true, rdOk]
        by_cases hb : b.toNat = 48
        · rw [decide_eq_true hb, decide_eq_true (show (b.toNat : Int) = 48 by omega)]; rfl
        · rw [decide_eq_false hb, decide_eq_false (show ¬ (b.toNat : Int) = 48 by omega)]
          rw [show (b :: b2 :: r).all isDig = (isDig b && (b2 :: r).all isDig) from rfl]
          cases (isDig b && (b2 :: r).all isDig) with
          | true => cases (rdRun (b :: b2 :: r) 0).1 <;> rfl
          | false => rfl
  · have hn : s.data.toList = [] := List.eq_nil_of_length_eq_zero (by show lenS s = 0; omega)
    rw [decide_eq_true (show Int.ofNat (lenS s) = 0 by rw [show Int.ofNat (lenS s) = ((lenS s : Nat) : Int) from rfl]; omega), hn]
    rfl
end Go.Proofs.YthpdeiolhahobaaDoor

/- Chapter 2: Text: its loop, and its formula. -/
namespace Go.Proofs.YthpdeiolhahobaaDoor
open Go Go.Eng
structure NT where
  z : Int → Int → Int → Int → Int
  w0 : Int → Int
  w1 : Int → Int
  w2 : Int → Int
  w3 : Int → Int
  inn : Int → Int → Int → Int → Bool
  te : Int → Int
  teR : Int → Int
def NT.nW (N : NT) (x : Int) : V := .agg [.int .u32 (N.w0 x), .int .u32 (N.w1 x), .int .u32 (N.w2 x), .int .u32 (N.w3 x)]
def gTenthV (N : NT) : List V → Option (Bool × V)
  | [.agg [.int .u32 a, .int .u32 b, .int .u32 c, .int .u32 d]] => some (N.inn a b c d, .tuple [N.nW (N.te (N.z a b c d)), .int .u32 (N.teR (N.z a b c d))])
  | _ => none
def tabTx (N : NT) : PTab := addTab 34 (gTenthV N) emptyTab
noncomputable abbrev orcT (N : NT) : Oracle := orcP (tabTx N) plainL
noncomputable def txLp : Code := loopOf 3 Tryd.f17
def txT : Tm := ⟨mkS [(1, .ptr 0 0), (3, .ptr 1 0), (4, .int .i64)] 0 28, [.own 28 n4, .own 67 (.ints .u8)], []⟩
def txX : Tm := ⟨mkS [(2, .str)] 0 28, [], []⟩
def NT.isZ (N : NT) (x : Int) : Bool := decide (N.w0 x = 0) && (decide (N.w1 x = 0) && (decide (N.w2 x = 0) && (decide (N.w3 x = 0) && true)))
def txP (t : Int) : Nat := (wr .i64 (t - 1)).toNat
def txS (xs : List Int) (t r : Int) : List Int := xs.set (txP t) (wr .u8 (wr .u32 (48 + r)))
noncomputable def txOut (t : Int) (ys : List Int) : RT := bif decide (0 ≤ wr .i64 (t - 1) ∧ wr .i64 (t - 1) ≤ 39 ∧ (39 : Int) ≤ 39) then bif decide ((bif Nat.beq 39 (txP t) then 0 else txP t) + (39 - txP t) ≤ ys.length) then
  some (.ret, [.s (bytesOf (List.take (mulS (39 - txP t) 1) (List.drop (bif Nat.beq 39 (txP t) then 0 else addS 0 (mulS (txP t) 1)) ys)))], []) else none else none
theorem tx_round (N : NT) (rd : Option Nat) (xs : List Int) (t a b c d : Int) : roundT Tryd.prog (orcT N) noLoops 200 0 rd 17 txLp txT txX [.i t, .i a, .i b, .i c, .i d, .l xs] =
    bif N.inn a b c d then bif decide (0 ≤ wr .i64 (t - 1) ∧ wr .i64 (t - 1) < 39) then bif decide (txP t < xs.length) then
      bif N.isZ (N.te (N.z a b c d)) then txOut t (txS xs t (N.teR (N.z a b c d))) else bif decide (wr .i64 (t - 1) = 0) then txOut t (txS xs t (N.teR (N.z a b c d))) else
      some (.normal, [.i (wr .i64 (t - 1)), .i (N.w0 (N.te (N.z a b c d))), .i (N.w1 (N.te (N.z a b c d))), .i (N.w2 (N.te (N.z a b c d))), .i (N.w3 (N.te (N.z a b c d))), .l (txS xs t (N.teR (N.z a b c d)))], [])
    else none else none else none := by kernel_rfl
end Go.Proofs.YthpdeiolhahobaaDoor
