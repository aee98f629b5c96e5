/- Chapter 8: ReadAll, for every string. -/
import Derived.Test.YtpehklboickdpaaDoorRA2
namespace Go.Proofs.YtpehklboickdpaaDoor
open Go Go.Eng
def rdL (w : List UInt8) : Option Nat := rdF textsL 0 (bA w)
theorem rd_some {w : List UInt8} {k : Nat} (h : rdL w = some k) : rdC (bA w) = (k : Int) ∧ rdE (bA w) = 0 := by
  unfold rdL at h
  unfold rdC rdE
  rw [h]
  exact ⟨rfl, rfl⟩
theorem rd_none {w : List UInt8} (h : rdL w = none) : rdC (bA w) = 0 ∧ rdE (bA w) = 81 := by
  unfold rdL at h
  unfold rdC rdE
  rw [h]
  exact ⟨rfl, rfl⟩
theorem lenS_bA (t : List UInt8) : lenS (bA t) = t.length := rfl
theorem ext_bA (t : List UInt8) (l h : Nat) : extS (bA t) l h = bA ((t.drop l).take (h - l)) := rfl
theorem strEqW {a b : ByteArray} : strEq a b = true ↔ a = b := by
  rw [← strEq_eq]
  constructor
  · intro h
    have := eq_of_beq h
    apply ByteArray.ext
    apply Array.ext'
    rw [ByteArray.toList_eq, ByteArray.toList_eq] at this
    exact this
  · rintro rfl; exact beq_self_eq_true _
theorem wr64 {x : Int} (h1 : -9223372036854775808 ≤ x) (h2 : x < 9223372036854775808) : wr .i64 x = x := by
  simp only [wr, sgn]
  cases h : decide (9223372036854775808 ≤ x % 18446744073709551616) with
  | true => simp only [decide_eq_true_eq] at h; simp only [cond_true]; omega
  | false => simp only [decide_eq_false_iff_not] at h; simp only [cond_false]; omega
theorem idx_bA (t : List UInt8) : idxI (bA t) 32 = match restW t with | none => -1 | some _ => ((cutW t).length : Int) := indexByte_eq 32 t rfl
theorem ext_l (w q : List UInt8) : extS (bA (w ++ 32 :: q)) (0 : Int).toNat ((w.length : Nat) : Int).toNat = bA w := by
  rw [ext_bA]
  congr 1
  simp
theorem ext_r (w q : List UInt8) : extS (bA (w ++ 32 :: q)) (((w.length : Nat) : Int) + 1).toNat (Int.ofNat (w ++ 32 :: q).length).toNat = bA q := by
  rw [ext_bA, show (((w.length : Nat) : Int) + 1).toNat = w.length + 1 by omega, show (Int.ofNat (w ++ 32 :: q).length).toNat = (w ++ 32 :: q).length from rfl]
  congr 1
  rw [List.take_of_length_le (by rw [List.length_drop]; omega), List.drop_append, List.drop_of_length_le (by omega), show w.length + 1 - w.length = 1 by omega]
  rfl
theorem ra_at {E : ByteArray → Int} {t : List UInt8} {full : Bool} {fit : ByteArray → Bool} {ret : List PV} {nx : ByteArray → Bool → ByteArray → List PV} {ex : List PV} (hl : t.length ≤ 1000000) :
    raRd E (bA t) true full fit ret nx ex = raOne E (bA (cutW t)) full (fit (bA (cutW t))) ret (nx (bA ((restW t).getD [])) (restW t).isSome (bA (cutW t))) := by
  unfold raRd
  rw [cond_true, idx_bA]
  cases h : restW t with
  | none =>
    have hs : strEq ⟨#[32]⟩ (bA t) = false := by
      cases hh : strEq ⟨#[32]⟩ (bA t) with
      | false => rfl
      | true =>
        have := bA_inj (l := [32]) (strEqW.1 hh)
        subst this
        simp [restW] at h
    dsimp only
    rw [hs, cond_false, decide_eq_false (by decide), cond_false, cutW_none h]
    rfl
  | some q =>
    have ht := restW_len h
    have hlen : t.length = (cutW t).length + 1 + q.length := by
      conv => lhs; rw [ht]
      simp; omega
    cases hs : strEq ⟨#[32]⟩ (bA t) with
    | true =>
      have := bA_inj (l := [32]) (strEqW.1 hs)
      subst this
      cases h
      rfl
    | false =>
      simp only
      rw [cond_false, lenS_bA, wr64 (by omega) (by omega), decide_eq_true (by omega), decide_eq_true (show 0 ≤ (0 : Int) ∧ 0 ≤ ((cutW t).length : Int) ∧ ((cutW t).length : Int) ≤ Int.ofNat t.length from ⟨by omega, by omega, by show ((cutW t).length : Int) ≤ (t.length : Int); omega⟩),
        decide_eq_true (show 0 ≤ ((cutW t).length : Int) + 1 ∧ ((cutW t).length : Int) + 1 ≤ Int.ofNat t.length ∧ Int.ofNat t.length ≤ Int.ofNat t.length from ⟨by omega, by show ((cutW t).length : Int) + 1 ≤ (t.length : Int); omega, Int.le_refl _⟩)]
      have e1 : extS (bA t) (0 : Int).toNat ((cutW t).length : Int).toNat = bA (cutW t) := by
        generalize cutW t = w at ht
        rw [ht, ext_l]
      have e2 : extS (bA t) (((cutW t).length : Int) + 1).toNat (Int.ofNat t.length).toNat = bA q := by
        generalize cutW t = w at ht
        rw [ht, ext_r]
      rw [e1, e2]
      rfl
theorem one_some {w : List UInt8} {k : Nat} (h : rdL w = some k) (full fit : Bool) (ret nx : List PV) : raOne rdE (bA w) full fit ret nx = bif full then some (.ret, ret, raCd) else bif fit then some (.normal, nx, raCd) else none := by
  unfold raOne
  rw [(rd_some h).2, pB_iff.2 rfl]; rfl
theorem one_none {w : List UInt8} (h : rdL w = none) (full fit : Bool) (ret nx : List PV) : raOne rdE (bA w) full fit ret nx = some (.ret, ret, raCd) := by
  unfold raOne
  rw [(rd_none h).2, pB_iff.2 rfl]; rfl
theorem raCodes : codesOk raCd := by intro x hx; simp [raCd] at hx; rcases hx with rfl | rfl <;> rfl
def pend (b : Bool) (t : List UInt8) : List (List UInt8) := if b = true then splitW t else []
def raFin (s1 s2 s3 : ByteArray) : Option (List Int) → XE × List PV
  | none => (.ret, [.ss textsL, .s s1, .s s2, .s s3])
  | some l => (.exit 0, [.ss textsL, .s s1, .s s2, .s s3, .l l])
theorem raE_ok : ∀ e, (raE e).ok = true := fun e => by cases e <;> kernel_rfl
theorem raE0_ok : ∀ e, (raE0 e).ok = true := fun e => by cases e <;> kernel_rfl
theorem pend_eq (t : List UInt8) : pend true t = cutW t :: pend (restW t).isSome ((restW t).getD []) := by
  unfold pend
  rw [if_pos rfl, splitW_eq]
  cases restW t <;> rfl
theorem rest_small {t : List UInt8} : ((restW t).getD []).length + (if (restW t).isSome = true then 1 else 0) < t.length + 1 := by
  cases h : restW t with
  | none => simp
  | some q =>
    have ht := restW_len h
    have : t.length = (cutW t).length + 1 + q.length := by
      conv => lhs; rw [ht]
      simp; omega
    simp only [Option.getD_some, Option.isSome_some, if_true]
    omega
theorem rest_len {t : List UInt8} : ((restW t).getD []).length ≤ t.length := by
  have := rest_small (t := t)
  split at this <;> omega
theorem ra_loop (rd : Option Nat) (s1 s2 s3 : ByteArray) : ∀ x : List UInt8 × Bool × List Int, (x.1.length ≤ 1000000 ∧ x.2.2.length ≤ 319) →
    ∃ n, SimL Tryd.prog 7 rd raLp n (raT.at [.s (bA x.1), .b x.2.1, .ss textsL, .s s1, .s s2, .s s3, .l x.2.2]) (raFin s1 s2 s3 (raL rdL (pend x.2.1 x.1) x.2.2)).1 ((raE (raFin s1 s2 s3 (raL rdL (pend x.2.1 x.1) x.2.2)).1).at (raFin s1 s2 s3 (raL rdL (pend x.2.1 x.1) x.2.2)).2) := by
  refine loop_of_roundsX_n (C := orcRd rdC rdE tabS plainL) (L := noLoops) (N := 100) (me := 51) (T := raT) (T' := raE) (orcRd_ok tabS_ok plainL_ok) mixed noLoops_ok (by kernel_rfl) raE_ok (X := List UInt8 × Bool × List Int)
    (fun x => [.s (bA x.1), .b x.2.1, .ss textsL, .s s1, .s s2, .s s3, .l x.2.2]) (fun x => x.1.length ≤ 1000000 ∧ x.2.2.length ≤ 319) (fun x => x.1.length + (if x.2.1 = true then 1 else 0)) (fun x => raFin s1 s2 s3 (raL rdL (pend x.2.1 x.1) x.2.2)) ?_
  rintro ⟨t, b, l⟩ ⟨ht, hl⟩
  dsimp only at ht hl ⊢
  have h := ra_round rd rdC rdE (bA t) s1 s2 s3 b l
  cases b with
  | false => exact ⟨_, _, _, h, raCodes, .inr ⟨by simp, rfl⟩⟩
  | true =>
    rw [ra_at ht] at h
    rw [pend_eq]
    cases hw : rdL (cutW t) with
    | none =>
      rw [one_none hw] at h
      refine ⟨_, _, _, h, raCodes, .inr ⟨by simp, ?_⟩⟩
      simp only [raL, hw]; rfl
    | some k =>
      rw [one_some hw, (rd_some hw).1] at h
      by_cases hf : l.length = 319
      · rw [decide_eq_true (show Int.ofNat l.length = 319 by rw [hf]; rfl)] at h
        refine ⟨_, _, _, h, raCodes, .inr ⟨by simp, ?_⟩⟩
        simp only [raL, hw]
        rw [if_pos hf]; rfl
      · rw [decide_eq_false (show ¬ Int.ofNat l.length = 319 from fun e => hf (by have : (l.length : Int) = 319 := e; omega)), cond_false, decide_eq_true (by rw [List.length_append, List.length_singleton]; omega), cond_true] at h
        refine ⟨_, _, _, h, raCodes, .inl ⟨rfl, ((restW t).getD [], (restW t).isSome, l ++ [(k : Int)]), rfl, ⟨by have := rest_len (t := t); dsimp only; omega, by dsimp only; rw [List.length_append, List.length_singleton]; omega⟩, ?_, ?_⟩⟩
        · have := rest_small (t := t)
          dsimp only
          rw [if_pos (show true = true from rfl)]
          exact this
        · dsimp only
          simp only [raL, hw]
          rw [if_neg hf]
end Go.Proofs.YtpehklboickdpaaDoor
