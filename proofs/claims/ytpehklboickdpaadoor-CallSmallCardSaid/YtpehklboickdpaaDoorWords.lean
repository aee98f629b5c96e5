/- Chapter 8: a string's words, plainly. -/
import Derived.Test.YtpehklboickdpaaDoorTexts
namespace Go.Proofs.YtpehklboickdpaaDoor
open Go Go.Eng
def bA (l : List UInt8) : ByteArray := ⟨⟨l⟩⟩
theorem bA_inj {l r : List UInt8} (h : bA l = bA r) : l = r := by
  have := congrArg (fun b : ByteArray => b.data.toList) h
  exact this
theorem bA_of (s : ByteArray) : s = bA s.data.toList := by cases s; rfl
/-- Up to the first blank, and what stands behind it. -/
def cutW : List UInt8 → List UInt8
  | [] => []
  | b :: r => if b = 32 then [] else b :: cutW r
def restW : List UInt8 → Option (List UInt8)
  | [] => none
  | b :: r => if b = 32 then some r else restW r
def splitW : List UInt8 → List (List UInt8)
  | [] => [[]]
  | b :: r => match splitW r with
    | [] => [[b]]
    | w :: ws => if b = 32 then [] :: w :: ws else (b :: w) :: ws
theorem splitW_ne (l : List UInt8) : splitW l ≠ [] := by
  cases l with
  | nil => simp [splitW]
  | cons b r =>
    simp only [splitW]
    split
    · simp
    · split <;> simp
theorem splitW_eq : ∀ l : List UInt8, splitW l = cutW l :: (match restW l with | none => [] | some r => splitW r)
  | [] => rfl
  | b :: r => by
    have ih := splitW_eq r
    simp only [splitW, cutW, restW]
    by_cases hb : b = 32
    · rw [if_pos hb, if_pos hb]
      cases hs : splitW r with
      | nil => exact absurd hs (splitW_ne r)
      | cons w ws => simp only; rw [if_pos hb, hs]
    · rw [if_neg hb, if_neg hb, ih]
      simp only
      rw [if_neg hb]
theorem indexByte_eq (c : UInt8) : ∀ (l : List UInt8), (c = 32) → Lib.indexByte l c = match restW l with | none => -1 | some _ => ((cutW l).length : Int)
  | [], _ => rfl
  | b :: r, hc => by
    have ih := indexByte_eq c r hc
    subst hc
    unfold Lib.indexByte restW cutW
    by_cases hb : b = 32
    · subst hb; simp
    · simp only [hb, if_false]
      have hb' : (b == 32) = false := by simpa using hb
      simp only [hb', ih]
      cases restW r <;> simp
      all_goals omega
theorem restW_len : ∀ {l r : List UInt8}, restW l = some r → l = cutW l ++ 32 :: r
  | [], r, h => by simp [restW] at h
  | b :: l, r, h => by
    unfold restW at h
    unfold cutW
    by_cases hb : b = 32
    · rw [if_pos hb] at h ⊢; cases h; rw [hb]; rfl
    · rw [if_neg hb] at h ⊢
      rw [List.cons_append, ← restW_len h]
theorem cutW_none : ∀ {l : List UInt8}, restW l = none → cutW l = l
  | [], _ => rfl
  | b :: l, h => by
    unfold restW at h
    unfold cutW
    by_cases hb : b = 32
    · rw [if_pos hb] at h; cases h
    · rw [if_neg hb] at h ⊢; rw [cutW_none h]
/-- What reading all words comes to: none where one is no call, or they are too many. -/
def raL (rd : List UInt8 → Option Nat) : List (List UInt8) → List Int → Option (List Int)
  | [], acc => some acc
  | w :: ws, acc => match rd w with
    | none => none
    | some c => if acc.length = 319 then none else raL rd ws (acc ++ [(c : Int)])
end Go.Proofs.YtpehklboickdpaaDoor
