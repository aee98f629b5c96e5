/- Chapter 8: the reference's TextAll and ReadAll, plainly: they answer what the program's answer. -/
import Derived.Test.YtpehklboickdpaaDoorLReads2
namespace Go.Proofs.YtpehklboickdpaaDoor
open Go Go.Eng
def apS (a b : ByteArray) : ByteArray := ⟨(a.data.toList ++ b.data.toList).toArray⟩
def blS : ByteArray := ⟨#[32]⟩
/-- The text of calls, from one of them on. -/
def rtG : List Int → Bool → ByteArray → Option ByteArray
  | [], _, s => some s
  | c :: r, f, s => bif decide (c ≤ 37) then rtG r false (apS (bif f then s else apS s blS) (txt c)) else none
theorem jn_snoc : ∀ (x : List Int) (c : Int), x ≠ [] → jn (x ++ [c]) = jn x ++ 32 :: txtB c
  | [], _, h => absurd rfl h
  | [a], c, _ => by
    rw [List.singleton_append, jn_cons, jn_one, jn_one]
  | a :: b :: r, c, _ => by
    have ih := jn_snoc (b :: r) c (by simp)
    rw [List.cons_append, List.cons_append, jn_cons, ← List.cons_append, ih, jn_cons]
    simp
def allK (xs : List Int) : Bool := xs.all fun c => decide (c ≤ 37)
theorem rtG_go : ∀ (r p : List Int), p ≠ [] → rtG r false (bA (jn p)) = bif allK r then some (bA (jn (p ++ r))) else none
  | [], p, _ => by simp [rtG, allK]
  | c :: r, p, hp => by
    have e : apS (apS (bA (jn p)) blS) (txt c) = bA (jn (p ++ [c])) := by
      rw [jn_snoc p c hp]
      unfold apS bA blS txtB
      simp
    unfold rtG
    simp only [cond_false]
    rw [e, rtG_go r (p ++ [c]) (by simp)]
    unfold allK
    rw [List.all_cons, List.append_assoc, List.singleton_append]
    cases decide (c ≤ 37) <;> simp
theorem rtG_is (xs : List Int) : rtG xs true ⟨#[]⟩ = bif allK xs then some (bA (jn xs)) else none := by
  cases xs with
  | nil => rfl
  | cons c r =>
    have e : apS ⟨#[]⟩ (txt c) = bA (jn [c]) := by
      rw [jn_one]
      unfold apS bA txtB
      simp
    unfold rtG
    simp only [cond_true]
    rw [e, rtG_go r [c] (by simp)]
    unfold allK
    rw [List.all_cons, List.singleton_append]
    cases decide (c ≤ 37) <;> simp
theorem taR_all : ∀ (xs : List Int) (ss : List ByteArray), (taR xs ss).1 = allK xs
  | [], _ => rfl
  | c :: r, ss => by
    unfold taR allK
    rw [List.all_cons]
    cases decide (c ≤ 37) with
    | true => simp only [cond_true, Bool.true_and]; exact taR_all r _
    | false => rfl
theorem okX_of : ∀ {xs : List Int}, allU xs = true → allK xs = true → okX xs
  | [], _, _ => fun c hc => by cases hc
  | x :: r, hu, hk => fun c hc => by
    simp only [allU, Bool.and_eq_true, decide_eq_true_eq] at hu
    unfold allK at hk
    simp only [List.all_cons, Bool.and_eq_true, decide_eq_true_eq] at hk
    rcases List.mem_cons.1 hc with rfl | h
    · exact ⟨hu.1.1, hk.1⟩
    · exact okX_of hu.2 hk.2 c h
theorem rt_ok {xs : List Int} (hu : allU xs = true) (hl : xs.length ≤ 319) (h : allK xs = true) : rtG xs true ⟨#[]⟩ = some (taS xs) ∧ taE xs = 0 := by
  obtain ⟨h1, h2⟩ := tS_ok (okX_of hu h) hl
  rw [rtG_is, h, cond_true, h1]
  exact ⟨rfl, h2⟩
theorem rt_bad {xs : List Int} (hl : xs.length ≤ 319) (h : allK xs = false) : rtG xs true ⟨#[]⟩ = none ∧ taS xs = ⟨#[]⟩ ∧ taE xs = 80 := by
  rw [rtG_is, h]
  unfold taS taE
  rw [decide_eq_false (by omega), taR_all, h]
  exact ⟨rfl, rfl, rfl⟩
theorem rt_long {xs : List Int} (hl : 319 < xs.length) : taS xs = ⟨#[]⟩ ∧ taE xs = 5 := by
  unfold taS taE
  rw [decide_eq_true hl]
  exact ⟨rfl, rfl⟩
/-! ### ReadAll -/
/-- Byte by byte: the word so far, the calls so far. -/
def rmG : List UInt8 → List UInt8 → List Int → Option (List Int)
  | [], w, acc => match rdL w with
    | none => none
    | some c => if acc.length = 319 then none else some (acc ++ [(c : Int)])
  | b :: r, w, acc => if b = 32 then (match rdL w with
    | none => none
    | some c => if acc.length = 319 then none else rmG r [] (acc ++ [(c : Int)])) else rmG r (w ++ [b]) acc
theorem rmG_is : ∀ (l w : List UInt8) (acc : List Int), rmG l w acc = raL rdL ((w ++ cutW l) :: (match restW l with | none => [] | some r => splitW r)) acc
  | [], w, acc => by
    unfold rmG
    simp only [cutW, restW, List.append_nil, raL]
    cases rdL w <;> rfl
  | b :: r, w, acc => by
    unfold rmG cutW restW
    by_cases hb : b = 32
    · rw [if_pos hb, if_pos hb, if_pos hb, List.append_nil]
      simp only [raL]
      cases rdL w with
      | none => rfl
      | some c =>
        simp only
        split
        · rfl
        · rw [rmG_is r [] _, List.nil_append]
          exact congrArg (fun x => raL rdL x (acc ++ [(c : Int)])) (splitW_eq r).symm
    · rw [if_neg hb, if_neg hb, if_neg hb, rmG_is r (w ++ [b]) acc, List.append_assoc, List.singleton_append]
theorem rm_raO (s : ByteArray) : rmG s.data.toList [] [] = raO s := by
  unfold raO
  rw [rmG_is, List.nil_append]
  exact congrArg (fun x => raL rdL x []) (splitW_eq _).symm
theorem rm_ok {s : ByteArray} (hs : strEq s ⟨#[]⟩ = false) {o : List Int} (h : rmG s.data.toList [] [] = some o) : raV s = o ∧ raI s = 0 := by
  rw [rm_raO] at h
  unfold raV raI raErr raRes raBad raVal
  rw [hs, h]
  exact ⟨rfl, rfl⟩
theorem rm_bad {s : ByteArray} (hs : strEq s ⟨#[]⟩ = false) (h : rmG s.data.toList [] [] = none) : raV s = [] ∧ raI s = 81 := by
  rw [rm_raO] at h
  unfold raV raI raErr raRes raBad raVal
  rw [hs, h]
  exact ⟨rfl, rfl⟩
theorem rm_no {s : ByteArray} (hs : strEq s ⟨#[]⟩ = true) : raV s = [] ∧ raI s = 0 := by
  unfold raV raI raErr raRes
  rw [hs]
  exact ⟨rfl, rfl⟩
theorem raL_len : ∀ (ws : List (List UInt8)) (acc o : List Int), acc.length ≤ 319 → raL rdL ws acc = some o → o.length ≤ 319
  | [], acc, o, h, he => by cases he; exact h
  | w :: ws, acc, o, h, he => by
    unfold raL at he
    split at he
    · cases he
    · split at he
      · cases he
      · rename_i hne
        exact raL_len ws _ o (by rw [List.length_append, List.length_singleton]; omega) he
theorem raV_len (s : ByteArray) : (raV s).length ≤ 319 := by
  unfold raV raRes raVal
  cases raErr s with
  | true => simp
  | false =>
    simp only [cond_false]
    cases strEq s ⟨#[]⟩ with
    | true => simp
    | false =>
      simp only [cond_false]
      cases h : raO s with
      | none => simp
      | some o => exact raL_len _ [] o (by simp) h
end Go.Proofs.YtpehklboickdpaaDoor
