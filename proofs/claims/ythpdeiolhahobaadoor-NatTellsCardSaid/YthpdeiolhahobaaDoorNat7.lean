/- Texts merged: Nat7, Trim. -/
import Derived.Test.YthpdeiolhahobaaDoorNat6
import Derived.Shelf.Strings.SlTrimAscii
/- Chapter 2: times and divide in the table. -/
namespace Go.Proofs.YthpdeiolhahobaaDoor
open Go Go.Eng
def gTimes : List V → Option (Bool × V)
  | [.agg [.int .u32 a, .int .u32 b, .int .u32 c, .int .u32 d], .agg [.int .u32 e, .int .u32 f, .int .u32 g, .int .u32 h]] => some (inN a b c d && inN e f g h, .tuple [nW (nval a b c d * nval e f g h), .bool (decide (nval a b c d * nval e f g h < 340282366920938463463374607431768211456))])
  | _ => none
def gDivide : List V → Option (Bool × V)
  | [.agg [.int .u32 a, .int .u32 b, .int .u32 c, .int .u32 d], .agg [.int .u32 e, .int .u32 f, .int .u32 g, .int .u32 h]] => some ((inN a b c d && inN e f g h) && decide (1 ≤ nval e f g h), .tuple [nW (nval a b c d / nval e f g h), nW (nval a b c d % nval e f g h)])
  | _ => none
def tabD : PTab := addTab 36 gTimes (addTab 38 gDivide tabA)
theorem tabD_ok : PTabOk Tryd.prog tabD := by
  refine addTab_ok ?_ (addTab_ok ?_ tabA_ok)
  · intro args c v h hc
    unfold gTimes at h
    split at h
    · cases h; simp only [Bool.and_eq_true] at hc; exact times_p hc.1 hc.2
    · cases h
  · intro args c v h hc
    unfold gDivide at h
    split at h
    · cases h; simp only [Bool.and_eq_true, decide_eq_true_eq] at hc; exact divide_p hc.1.1 hc.1.2 hc.2
    · cases h
end Go.Proofs.YthpdeiolhahobaaDoor

/- Chapter 2: strings.Trim at the ten digits. -/
namespace Go.Proofs.YthpdeiolhahobaaDoor
open Go Go.Eng
def tens : ByteArray := ⟨#[48, 49, 50, 51, 52, 53, 54, 55, 56, 57]⟩
def trimD (s : ByteArray) : ByteArray := ⟨(Lib.trimS s.data.toList tens.data.toList).toArray⟩
theorem trim_p {s : ByteArray} (hs : lenS s ≤ 9223372036854775807) : FnPure Tryd.prog 35 [.str s, .str tens] (.str (trimD s)) := by
  refine pure_of_below (.of Tryd.func35 (by kernel_rfl)) rfl rfl fun w => ?_
  have h := Any.strings_Trim_laid Tryd.lays160 (by kernel_rfl) s tens w (by rw [lenS_eq]; exact hs) (by decide) (ascii_of_all (by decide))
  refine h.mono ?_
  rintro e w' ⟨rfl, hB⟩
  exact ⟨rfl, hB⟩
def gTrim : List V → Option (Bool × V)
  | [.str s, .str c] => some (strEq c tens && decide (lenS s ≤ 9223372036854775807), .str (trimD s))
  | _ => none
theorem strEq_iff {a b : ByteArray} : strEq a b = true ↔ a = b := by
  unfold strEq
  rw [beqBs_eq]
  constructor
  · intro h
    have h2 := eq_of_beq h
    cases a; cases b
    congr 1
    exact Array.toList_inj.1 h2
  · rintro rfl; simp
theorem dropWhile_nil {α : Type} {p : α → Bool} : ∀ {l : List α}, l.dropWhile p = [] ↔ l.all p = true
  | [] => by simp
  | a :: r => by
    simp only [List.dropWhile, List.all_cons, Bool.and_eq_true]
    cases h : p a with
    | true => simp [dropWhile_nil]
    | false => simp
theorem trim_nil {l cs : List UInt8} : Lib.trimS l cs = [] ↔ l.all (cs.contains ·) = true := by
  unfold Lib.trimS Lib.trimLeftS Lib.trimRightS
  rw [dropWhile_nil]
  constructor
  · intro h
    -- what is left on the right ends with a byte beyond, if it is not empty
    have : (l.reverse.dropWhile (cs.contains ·)) = [] := by
      cases hd : l.reverse.dropWhile (cs.contains ·) with
      | nil => rfl
      | cons b r =>
        exfalso
        rw [hd, List.all_reverse] at h
        have hb : cs.contains b = true := by
          have := List.all_eq_true.1 h b (by simp)
          simpa using this
        have := List.head_dropWhile_not (cs.contains ·) (l := l.reverse) (by rw [hd]; simp)
        simp only [hd, List.head_cons] at this
        rw [hb] at this; cases this
    rw [dropWhile_nil, List.all_reverse] at this
    exact this
  · intro h
    have : (l.reverse.dropWhile (cs.contains ·)) = [] := by rw [dropWhile_nil, List.all_reverse]; exact h
    rw [this]; rfl
/-- A digit's byte. -/
def isDig (b : UInt8) : Bool := decide (48 ≤ b.toNat ∧ b.toNat < 58)
theorem tens_has (b : UInt8) : tens.data.toList.contains b = isDig b := by
  have : ∀ n : Fin 256, tens.data.toList.contains (UInt8.ofNat n.val) = isDig (UInt8.ofNat n.val) := by decide +kernel
  have h := this ⟨b.toNat, b.toNat_lt⟩
  simpa using h
theorem trimD_nil {s : ByteArray} : strEq (trimD s) ⟨#[]⟩ = s.data.toList.all isDig := by
  rw [Bool.eq_iff_iff, strEq_iff]
  unfold trimD
  rw [ByteArray.mk.injEq]
  rw [show (Lib.trimS s.data.toList tens.data.toList).toArray = #[] ↔ Lib.trimS s.data.toList tens.data.toList = [] by simp, trim_nil]
  rw [show (tens.data.toList.contains ·) = isDig from funext tens_has]
end Go.Proofs.YthpdeiolhahobaaDoor
