/- Chapter 4, the reference: List and Write: their contracts. -/
import Derived.Test.YtbocdcnkmcejjaaDoorRList2
import Derived.Test.YtbocdcnkmcejjaaDoorWrite3
import Derived.Test.YtbocdcnkmcejjaaDoorEng4
namespace Go.Proofs.YtbocdcnkmcejjaaDoor
open Go Go.Eng
def keepX (v : V) (h : List Blk) : Option (V × Option (Bool × TypeId × Nat × Row)) := match v with
  | .tuple [.gs b, w] => match getB h b with
    | .grow nn ty sz row => some (.tuple [.gs b, w], some (nn, ty, sz, row))
    | _ => none
  | v => some (v, none)
theorem no_ro : ∀ (b : Nat) blk, ([] : List Blk)[b]? = some blk → blk.mine = false := fun b blk h => by simp at h
theorem desc_dw (m s : Nat) : ∀ n, desc m (13 * s + n) = dw m s n ++ desc m (13 * s)
  | 0 => rfl
  | n + 1 => by
    rw [show 13 * s + (n + 1) = (13 * s + n) + 1 by omega]
    simp only [desc, dw]
    rw [desc_dw m s n]
    split
    · rw [List.cons_append]
    · rfl
theorem desc_all (m : Nat) : desc m 52 = dw m 3 13 ++ (dw m 2 13 ++ (dw m 1 13 ++ dw m 0 13)) := by
  have h3 := desc_dw m 3 13
  have h2 := desc_dw m 2 13
  have h1 := desc_dw m 1 13
  have h0 := desc_dw m 0 13
  rw [show 13 * 3 + 13 = 52 from rfl, show 13 * 3 = 39 from rfl] at h3
  rw [show 13 * 2 + 13 = 39 from rfl, show 13 * 2 = 26 from rfl] at h2
  rw [show 13 * 1 + 13 = 26 from rfl, show 13 * 1 = 13 from rfl] at h1
  rw [show 13 * 0 + 13 = 13 from rfl, show 13 * 0 = 0 from rfl] at h0
  rw [h3, h2, h1, h0]
  simp [desc]
theorem rlist_eval (N : NR) (m : Int) : evalFn Tryd.prog (orcNR N) rlL 100 26 Tryd.f26 [.int .u64 m] [] keepX =
    bif !decide (m < 4503599627370496) then some (.tuple [.flat (.slice none 0 0), .int .i64 41], none) else cond (codesB [(rlLp, rlLp)]) (bif rlC m 3 12 0 then cond (codesB [(rlLp, rlLp)]) (bif rlC m 2 12 ([] ++ dw m.toNat 3 13).length then
      cond (codesB [(rlLp, rlLp)]) (bif rlC m 1 12 (([] ++ dw m.toNat 3 13) ++ dw m.toNat 2 13).length then cond (codesB [(rlLp, rlLp)]) (bif rlC m 0 12 ((([] ++ dw m.toNat 3 13) ++ dw m.toNat 2 13) ++ dw m.toNat 1 13).length then
        some (.tuple [.gs 0, .int .i64 0], some (false, 5, 1, .ints .u8 (((([] ++ dw m.toNat 3 13) ++ dw m.toNat 2 13) ++ dw m.toNat 1 13) ++ dw m.toNat 0 13))) else none) none else none) none else none) none else none) none := by kernel_rfl
def liE (m : Int) : Int := bif decide (4503599627370495 < m) then 41 else 0
def liV (m : Int) : List Int := bif decide (4503599627370495 < m) then [] else desc m.toNat 52
theorem rlC_ok {m : Int} (h0 : 0 ≤ m) (h1 : m < 4503599627370496) {s : Int} (h2 : 0 ≤ s ∧ s ≤ 3) {n : Nat} (hn : n ≤ 60) : rlC m s 12 n = true := by
  unfold rlC
  rw [decide_eq_true_eq]; omega
theorem rlist_fn {m : Int} (h0 : 0 ≤ m) : FnOK Tryd.prog 26 [.int .u64 m] [] (.tuple [.gs 0, .int .i64 (liE m)]) ([] ++ [.grow false 5 1 (.ints .u8 (liV m))]) := by
  have cd : codesB [(rlLp, rlLp)] = true := by rw [codesB_iff]; intro x hx; simp at hx; rw [hx]
  have key := rlist_eval R0 m
  unfold liE liV
  by_cases hm : m < 4503599627370496
  · have l3 := dw_len m.toNat 3 13
    have l2 := dw_len m.toNat 2 13
    have l1 := dw_len m.toNat 1 13
    rw [decide_eq_true hm, cd, rlC_ok h0 hm (by omega) (by omega), rlC_ok h0 hm (by omega) (by simp; omega), rlC_ok h0 hm (by omega) (by simp; omega), rlC_ok h0 hm (by omega) (by simp; omega)] at key
    rw [decide_eq_false (show ¬ 4503599627370495 < m by omega), cond_false, cond_false, desc_all]
    simp only [List.nil_append, List.append_assoc, Bool.not_true, cond_false, cond_true] at key
    obtain ⟨v1, h1, hk, hok⟩ := evalFn_ok orcNR_ok mixed Tryd.func26 rlL_ok key
    unfold keepX at hk
    split at hk
    · split at hk
      · rename_i b w nn ty sz row hb
        simp only [Option.some.injEq, Prod.mk.injEq, V.tuple.injEq, List.cons.injEq, V.gs.injEq, and_true] at hk
        obtain ⟨⟨rfl, rfl⟩, rfl, rfl, rfl, rfl⟩ := hk
        exact hok.lastAtT (getB_some hb (by simp)) rfl no_ro
      · cases hk
    · simp only [Option.some.injEq, Prod.mk.injEq] at hk
      cases hk.2
  · rw [decide_eq_false hm] at key
    rw [decide_eq_true (show 4503599627370495 < m by omega), cond_true, cond_true]
    obtain ⟨v1, h1, hk, hok⟩ := evalFn_ok orcNR_ok mixed Tryd.func26 rlL_ok key
    unfold keepX at hk
    split at hk
    · split at hk
      · cases hk
      · cases hk
    · cases hk
      exact hok.nilT no_ro
/-! ### Write -/
def wA (m : Nat) : ByteArray := bA (bytesL ⟨#[]⟩ ++ suf m 3 13)
def wN (m s : Nat) (t : ByteArray) : ByteArray := bA (bytesL (catS t ⟨#[46]⟩) ++ suf m s 13)
theorem rwrite_eval (N : NR) (m : Int) : evalFn Tryd.prog (orcNR N) rwL 100 25 Tryd.f25 [.int .u64 m] [] (fun v _ => some v) =
    bif !decide (m < 4503599627370496) then some (.tuple [.str ⟨#[]⟩, .int .i64 41]) else cond (codesB [(rwLp, rwLp)]) (bif rlC m 3 12 (lenS ⟨#[]⟩) then bif decide (lenS (wA m.toNat) + 1 ≤ 9223372036854775807) then
      cond (codesB [(rwLp, rwLp)]) (bif rlC m 2 12 (lenS (catS (wA m.toNat) ⟨#[46]⟩)) then bif decide (lenS (wN m.toNat 2 (wA m.toNat)) + 1 ≤ 9223372036854775807) then
      cond (codesB [(rwLp, rwLp)]) (bif rlC m 1 12 (lenS (catS (wN m.toNat 2 (wA m.toNat)) ⟨#[46]⟩)) then bif decide (lenS (wN m.toNat 1 (wN m.toNat 2 (wA m.toNat))) + 1 ≤ 9223372036854775807) then
      cond (codesB [(rwLp, rwLp)]) (bif rlC m 0 12 (lenS (catS (wN m.toNat 1 (wN m.toNat 2 (wA m.toNat))) ⟨#[46]⟩)) then some (.tuple [.str (wN m.toNat 0 (wN m.toNat 1 (wN m.toNat 2 (wA m.toNat)))), .int .i64 0]) else none) none else none else none) none else none else none) none else none else none) none := by kernel_rfl
theorem rwrite_p {m : Int} (h0 : 0 ≤ m) : FnPure Tryd.prog 25 [.int .u64 m] (.tuple [.str (wrV m), .int .i64 (wrE m)]) := by
  refine fnPure_of_eval (N := 100) orcNR_ok mixed Tryd.func25 (by kernel_rfl) rwL_ok ?_ rfl rfl
  have cd : codesB [(rwLp, rwLp)] = true := by rw [codesB_iff]; intro x hx; simp at hx; rw [hx]
  rw [rwrite_eval, cd]
  unfold wrV wrE
  by_cases hm : m < 4503599627370496
  · have l3 := suf_len m.toNat 3 13
    have l2 := suf_len m.toNat 2 13
    have l1 := suf_len m.toNat 1 13
    have eA : wA m.toNat = bA (suf m.toNat 3 13) := rfl
    have eN : ∀ (s : Nat) (t : List UInt8), wN m.toNat s (bA t) = bA (t ++ 46 :: suf m.toNat s 13) := fun s t => by
      unfold wN
      congr 1
      show (t ++ [46]) ++ suf m.toNat s 13 = _
      simp
    have eC : ∀ t : List UInt8, lenS (catS (bA t) ⟨#[46]⟩) = t.length + 1 := fun t => by
      show (t ++ [46]).length = _
      simp
    have eL : ∀ t : List UInt8, lenS (bA t) = t.length := fun t => rfl
    rw [decide_eq_true hm, decide_eq_false (show ¬ 4503599627370495 < m by omega), eA, eN, eN, eN, eC, eC, eC, eL, eL, eL, rlC_ok h0 hm (by omega) (show lenS ⟨#[]⟩ ≤ 60 from by decide), rlC_ok h0 hm (by omega) (by omega),
      rlC_ok h0 hm (by omega) (by simp; omega), rlC_ok h0 hm (by omega) (by simp; omega), decide_eq_true (by omega), decide_eq_true (by simp; omega), decide_eq_true (by simp; omega)]
    simp only [Bool.not_true, cond_false, cond_true]
    unfold wtxt
    simp
  · rw [decide_eq_false hm, decide_eq_true (show 4503599627370495 < m by omega)]; rfl
end Go.Proofs.YtbocdcnkmcejjaaDoor
