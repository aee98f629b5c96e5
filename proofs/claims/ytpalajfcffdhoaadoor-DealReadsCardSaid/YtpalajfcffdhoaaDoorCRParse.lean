/- Chapter 4, the reference: Parse: its loops. -/
import Derived.Test.YtpalajfcffdhoaaDoorCWrite3
import Derived.Test.YtpalajfcffdhoaaDoorCTxt
import Derived.Test.YtpalajfcffdhoaaDoorEng4
namespace Go.Proofs.YtpalajfcffdhoaaDoor.N4
open Go Go.Eng
noncomputable def rpLp2 : Code := loopOf 14 Tryd.f49
noncomputable def rpLp1 : Code := loopOf 5 Tryd.f49
def rpT2 : Tm := ⟨mkS [(0, .str), (2, .int .u64), (3, .int .i64), (4, .int .u64), (5, .int .i64), (6, .int .i64), (7, .int .i64), (8, .int .i64), (9, .int .i64)] 0 52, [], []⟩
def rpX2 : Tm := ⟨mkS [(0, .str), (2, .int .u64), (3, .int .i64), (4, .int .u64), (5, .int .i64), (6, .int .i64), (7, .int .i64), (8, .int .i64)] 0 52, [], []⟩
def rpT1 : Tm := ⟨mkS [(0, .str), (2, .int .u64), (3, .int .i64), (4, .int .u64), (5, .int .i64), (6, .int .i64), (7, .int .i64)] 0 52, [], []⟩
def rpX1 : Tm := ⟨mkS [(2, .int .u64), (3, .int .i64), (4, .int .u64), (5, .int .i64)] 0 52, [], []⟩
def rpXr : Tm := ⟨mkS [(2, .int .u64), (3, .int .i64)] 0 52, [], []⟩
def rpE : XE → Tm
  | .ret => rpXr
  | _ => rpX1
theorem rpE_ok : ∀ e, (rpE e).ok = true := fun e => by cases e <;> kernel_rfl
def chAt {α : Type} (s : ByteArray) (i : Int) (K : UInt8 → Option α) : Option α := bif decide (0 ≤ i) then (match s.data.toList[i.toNat]? with | some c => K c | none => none) else none
theorem chAt_at {α : Type} {l : List UInt8} {i : Nat} (h : i < l.length) (K : UInt8 → Option α) : chAt (bA l) (i : Int) K = K l[i] := by
  unfold chAt
  rw [decide_eq_true (show 0 ≤ (i : Int) by omega), cond_true, show ((i : Int)).toNat = i from rfl, show (bA l).data.toList = l from rfl, List.getElem?_eq_getElem h]
theorem rp_round2 (N : NR) (rd : Option Nat) (s : ByteArray) (z e m su la i r k : Int) : roundT Tryd.prog (orcNR N) noLoops 100 0 rd 49 rpLp2 rpT2 rpX2 [.s s, .i z, .i e, .i m, .i su, .i la, .i i, .i r, .i k] =
    bif decide (k < la) then chAt s i (fun c => bif strEq (N.sg k) (bytesOf [(c.toNat : Int)]) then some (.normal, [.s s, .i z, .i e, .i m, .i su, .i la, .i i, .i k, .i (wr .i64 (k + 1))], []) else some (.normal, [.s s, .i z, .i e, .i m, .i su, .i la, .i i, .i r, .i (wr .i64 (k + 1))], []))
    else some (.exit 2, [.s s, .i z, .i e, .i m, .i su, .i la, .i i, .i r], []) := by kernel_rfl
/-- The rank of a character below one: the last that fits. -/
def rkD (c : UInt8) : Nat → Int
  | 0 => -1
  | n + 1 => if rU.getD n 0 = c then (n : Int) else rkD c n
theorem strEqW {a b : ByteArray} : strEq a b = true ↔ a = b := by
  rw [← strEq_eq]
  constructor
  · intro h
    have := eq_of_beq h
    apply ByteArray.ext
    apply Array.ext'
    rw [ByteArray.toList_eq, ByteArray.toList_eq] at this
    exact this
  · rintro rfl; exact beq_self_eq_true _
theorem sg_is {n : Nat} (hn : n ≤ 12) (c : UInt8) : strEq (sgB (n : Int)) (bytesOf [(c.toNat : Int)]) = decide (rU.getD n 0 = c) := by
  have e : bytesOf [(c.toNat : Int)] = bA [c] := by
    unfold bytesOf bA
    simp
  rw [sg_eq hn, e, Bool.eq_iff_iff, strEqW, decide_eq_true_eq]
  constructor
  · intro h
    have := congrArg (fun b : ByteArray => b.data.toList) h
    simpa [bA] using this
  · rintro rfl; rfl
theorem rp_loop2 (rd : Option Nat) (t : List UInt8) (z e m su : Int) (la i : Nat) (hi : i < t.length) (hla : la ≤ 13) : ∀ k : Nat, k ≤ la →
    SimC Tryd.prog 0 rd (.loop rpLp2) (rpT2.at [.s (bA t), .i z, .i e, .i m, .i su, .i (la : Int), .i (i : Int), .i (rkD t[i] k), .i (k : Int)]) (.exit 2) (rpX2.at [.s (bA t), .i z, .i e, .i m, .i su, .i (la : Int), .i (i : Int), .i (rkD t[i] la)]) := by
  refine loop_of_rounds (C := orcNR R0) (L := noLoops) (N := 100) (me := 49) (T := rpT2) (T' := rpX2) orcNR_ok mixed noLoops_ok (by kernel_rfl) (by kernel_rfl) (X := Nat)
    (fun k => [.s (bA t), .i z, .i e, .i m, .i su, .i (la : Int), .i (i : Int), .i (rkD t[i] k), .i (k : Int)]) (fun k => k ≤ la) (fun k => la - k) (fun _ => (.exit 2, [.s (bA t), .i z, .i e, .i m, .i su, .i (la : Int), .i (i : Int), .i (rkD t[i] la)])) ?_
  intro k hk
  have h := rp_round2 R0 rd (bA t) z e m su (la : Int) (i : Int) (rkD t[i] k) (k : Int)
  rcases Nat.lt_or_ge k la with hlt | hge
  · rw [decide_eq_true (show (k : Int) < (la : Int) by omega), cond_true, chAt_at hi, show R0.sg = sgB from rfl, sg_is (by omega), wrI64 (by omega) (by omega)] at h
    by_cases hb : rU.getD k 0 = t[i]
    · rw [decide_eq_true hb] at h
      refine ⟨_, _, _, h, codesE, .inl ⟨rfl, k + 1, ?_, by omega, by omega, rfl⟩⟩
      simp only [rkD]
      rw [if_pos hb]; rfl
    · rw [decide_eq_false hb] at h
      refine ⟨_, _, _, h, codesE, .inl ⟨rfl, k + 1, ?_, by omega, by omega, rfl⟩⟩
      simp only [rkD]
      rw [if_neg hb]; rfl
  · obtain rfl : k = la := by omega
    rw [decide_eq_false (show ¬ (k : Int) < (k : Int) by omega), cond_false] at h
    exact ⟨_, _, _, h, codesE, .inr ⟨by simp, rfl⟩⟩
def rpC2 (s : ByteArray) (la i r k : Int) : Bool := decide (r = -1 ∧ k = 0 ∧ 0 ≤ la ∧ la ≤ 13 ∧ 0 ≤ i ∧ i < Int.ofNat s.data.toList.length)
def rkSq (s : ByteArray) (i la : Int) : Int := rkD (s.data.toList.getD i.toNat 0) la.toNat
noncomputable def rpTree2 : List PV → Fin
  | [.s s, .i z, .i e, .i m, .i su, .i la, .i i, .i r, .i k] => .br (rpC2 s la i r k) (.leaf (.exit 2) (rpX2.at [.s s, .i z, .i e, .i m, .i su, .i la, .i i, .i (rkSq s i la)])) .no
  | _ => .no
noncomputable def rpL2 : Loops := sums (fun n => match n with | 14 => some (lsumF 0 rpT2 rpLp2 rpTree2) | _ => none)
theorem rpL2_ok : loopsOk Tryd.prog rpL2 := by
  intro n g hg
  simp only [rpL2, sums] at hg
  split at hg
  · cases hg
    refine lsumF_ok (by kernel_rfl) (fun rd ps e1 st1 hq => ?_)
    unfold rpTree2 at hq
    split at hq
    · rename_i s z e m su la i r k
      simp only [Fin.pick] at hq
      cases hc : rpC2 s la i r k with
      | false => rw [hc] at hq; cases hq
      | true =>
        rw [hc, cond_true] at hq
        cases hq
        unfold rpC2 at hc
        rw [decide_eq_true_eq] at hc
        obtain ⟨rfl, rfl, h1, h2, h3, h4⟩ := hc
        have h4 : i < (s.data.toList.length : Int) := h4
        have hi : i.toNat < s.data.toList.length := by omega
        have := rp_loop2 rd s.data.toList z e m su la.toNat i.toNat hi (by omega) 0 (Nat.zero_le _)
        rw [show ((la.toNat : Nat) : Int) = la by omega, show ((i.toNat : Nat) : Int) = i by omega] at this
        unfold rkSq
        rw [List.getD_eq_getElem?_getD, List.getElem?_eq_getElem hi, Option.getD_some]
        exact this
    · cases hq
  · cases hg
theorem rp_round1 (N : NR) (rd : Option Nat) (s : ByteArray) (z e m su la i : Int) : roundX Tryd.prog (orcNR N) rpL2 100 0 rd 49 rpLp1 rpT1 rpT1 rpE [.s s, .i z, .i e, .i m, .i su, .i la, .i i] =
    bif decide (i < Int.ofNat s.data.toList.length) then chAt s i (fun c => bif decide ((c.toNat : Int) = 46) then bif decide (wr .i64 (su - 1) < 0) then some (.ret, [.i 0, .i 40], []) else some (.normal, [.s s, .i z, .i e, .i m, .i (wr .i64 (su - 1)), .i 13, .i (wr .i64 (i + 1))], []) else
      cond (codesB [(rpLp2, rpLp2)]) (bif rpC2 s la i (-1) 0 then bif decide (rkSq s i la < 0) then some (.ret, [.i 0, .i 40], []) else bif N.bitC (wr .u8 (rIx su (rkSq s i la))) then some (.normal, [.s s, .i z, .i e, .i (wr .u64 (m + N.bit (wr .u8 (rIx su (rkSq s i la))))), .i su, .i (rkSq s i la), .i (wr .i64 (i + 1))], []) else none else none) none)
    else some (.exit 0, [.i z, .i e, .i m, .i su], []) := by kernel_rfl
end Go.Proofs.YtpalajfcffdhoaaDoor.N4
