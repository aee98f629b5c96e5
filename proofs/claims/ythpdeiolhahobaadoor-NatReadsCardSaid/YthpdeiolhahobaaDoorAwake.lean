/- Chapter 2: the examples hold. -/
import Derived.Test.YthpdeiolhahobaaDoorTen
namespace Go.Proofs.YthpdeiolhahobaaDoor
open Go Go.Eng
/-! ### one choice, reckoned -/
def prow : Nat → List Nat
  | 0 => [1]
  | n + 1 => List.zipWith (· + ·) (0 :: prow n) (prow n ++ [0])
theorem prow_len : ∀ n : Nat, (prow n).length = n + 1
  | 0 => rfl
  | n + 1 => by simp [prow, prow_len n]
theorem prow_get : ∀ {n k : Nat}, k ≤ n → (prow n)[k]? = some (ch n k)
  | 0, 0, _ => rfl
  | n + 1, k, h => by
    simp only [prow, List.getElem?_zipWith]
    have h2 : (prow n ++ [0])[k]? = some (ch n k) := by
      by_cases e : k ≤ n
      · rw [List.getElem?_append_left (by rw [prow_len]; omega)]; exact prow_get e
      · rw [List.getElem?_append_right (by rw [prow_len]; omega), prow_len, show k - (n + 1) = 0 by omega, ch_big (by omega)]; rfl
    rw [h2]
    cases k with
    | zero =>
      have : ch n 0 = 1 := by cases n <;> rfl
      simp [ch, this]
    | succ k =>
      rw [List.getElem?_cons_succ, prow_get (by omega)]
      simp [ch]
theorem ch_52_13 : ch 52 13 = 635013559600 := by
  have h := prow_get (n := 52) (k := 13) (by decide)
  have e : (prow 52)[13]? = some 635013559600 := by kernel_rfl
  rw [e] at h
  cases h; rfl
def eqII (a b : Int) : Bool := decide (a = b)
def gChC : List V → Option (Bool × V)
  | [.int .i64 n, .int .i64 k] => bif eqII n 52 then some (eqII k 13, .tuple [nW 635013559600, .int .i64 0]) else bif eqII n 5 then some (eqII k 6, .tuple [nW 0, .int .i64 0]) else some (eqII n 129, .tuple [nW 0, .int .i64 5])
  | _ => none
def tabX : PTab := addTab 16 gChC tabT
theorem tabX_ok : PTabOk Tryd.prog tabX := by
  refine addTab_ok ?_ tabT_ok
  intro args c v h hc
  unfold gChC at h
  split at h
  · rename_i n k
    cases h1 : eqII n 52 with
    | true =>
      rw [h1] at h
      cases h
      have e1 := of_decide_eq_true h1
      have e2 := of_decide_eq_true hc
      subst e1; subst e2
      have := choose_p 52 13
      have hz : chZ 52 13 = 635013559600 := by
        show ((ch 52 13 : Nat) : Int) = _
        rw [ch_52_13]; rfl
      rw [hz] at this
      exact this
    | false =>
      rw [h1] at h
      cases h2 : eqII n 5 with
      | true =>
        rw [h2] at h
        cases h
        have e1 := of_decide_eq_true h2
        have e2 := of_decide_eq_true hc
        subst e1; subst e2
        exact choose_p 5 6
      | false =>
        rw [h2] at h
        cases h
        have e1 := of_decide_eq_true hc
        subst e1
        exact choose_p 129 k
  · cases h
end Go.Proofs.YthpdeiolhahobaaDoor
