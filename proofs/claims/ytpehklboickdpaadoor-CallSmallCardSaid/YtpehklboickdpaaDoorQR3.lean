/- Chapter 8: the reference's ReadAll. -/
import Derived.Test.YtpehklboickdpaaDoorQR2
import Derived.Test.YtpehklboickdpaaDoorEng4
namespace Go.Proofs.YtpehklboickdpaaDoor
open Go Go.Eng
noncomputable def chAt {α : Type} (s : ByteArray) (i : Int) (K : UInt8 → Option α) : Option α := bif decide (0 ≤ i) then (match s.data.toList[i.toNat]? with | some c => K c | none => none) else none
theorem chAt_at {α : Type} {s : ByteArray} {i : Nat} (h : i < s.data.toList.length) {K : UInt8 → Option α} : chAt s (i : Int) K = K s.data.toList[i] := by
  unfold chAt
  rw [decide_eq_true (show (0 : Int) ≤ (i : Int) by omega), show (i : Int).toNat = i from rfl, List.getElem?_eq_getElem h]; rfl
noncomputable def xrW (RC RE : ByteArray → Int) (z i : Int) (s w : ByteArray) (l : List Int) : RT := bif !decide (RE w = 0) then some (.ret, [.i 81, .l l], []) else bif decide (Int.ofNat l.length = 319) then some (.ret, [.i 81, .l l], []) else
  bif decide ((l ++ [RC w]).length * 2 ≤ 70368744177664) then some (.normal, [.s s, .i z, .s ⟨#[]⟩, .i (wr .i64 (i + 1)), .l (l ++ [RC w])], []) else none
theorem xr_round (RC RE : ByteArray → Int) (rd : Option Nat) (z i : Int) (s w : ByteArray) (l : List Int) : roundT Tryd.prog (orcM textsL (tabRd RC RE) plainL) noLoops 100 0 rd 28 xrLp xrT xrX [.s s, .i z, .s w, .i i, .l l] =
    bif decide (i ≤ Int.ofNat (lenS s)) then bif decide (i < Int.ofNat (lenS s)) then chAt s i (fun c => bif !decide ((c.toNat : Int) = 32) then chAt s i (fun c => bif decide (lenS w + 1 ≤ 9223372036854775807) then
      some (.normal, [.s s, .i z, .s ⟨(w.data.toList ++ (bytesOf [(c.toNat : Int)]).data.toList).toArray⟩, .i (wr .i64 (i + 1)), .l l], []) else none) else xrW RC RE z i s w l) else xrW RC RE z i s w l else some (.exit 0, [.i z, .l l], []) := by kernel_rfl
theorem bytesOf_one (c : UInt8) : (bytesOf [(c.toNat : Int)]).data.toList = [c] := by
  unfold bytesOf
  simp
/-- Whether all words are calls; the calls so far. -/
def rmF : List UInt8 → List UInt8 → List Int → Bool × List Int
  | [], w, acc => match rdL w with
    | none => (false, acc)
    | some c => if acc.length = 319 then (false, acc) else (true, acc ++ [(c : Int)])
  | b :: r, w, acc => if b = 32 then (match rdL w with
    | none => (false, acc)
    | some c => if acc.length = 319 then (false, acc) else rmF r [] (acc ++ [(c : Int)])) else rmF r (w ++ [b]) acc
theorem rmF_G : ∀ (l w : List UInt8) (acc : List Int), rmG l w acc = bif (rmF l w acc).1 then some (rmF l w acc).2 else none
  | [], w, acc => by
    unfold rmG rmF
    cases rdL w with
    | none => rfl
    | some c => simp only; split <;> rfl
  | b :: r, w, acc => by
    unfold rmG rmF
    by_cases hb : b = 32
    · rw [if_pos hb, if_pos hb]
      cases rdL w with
      | none => rfl
      | some c =>
        simp only
        split
        · rfl
        · exact rmF_G r [] _
    · rw [if_neg hb, if_neg hb]
      exact rmF_G r _ acc
def xrFin (z : Int) (q : Bool × List Int) : XE × List PV := if q.1 = true then (.exit 0, [.i z, .l q.2]) else (.ret, [.i 81, .l q.2])
/-- What comes of a state: behind the last word nothing is left. -/
def rmQ (l : List UInt8) (i : Nat) (w : List UInt8) (acc : List Int) : Bool × List Int := if i ≤ l.length then rmF (l.drop i) w acc else (true, acc)
theorem xrW_bad {z : Int} {i : Nat} {s : ByteArray} {w : List UInt8} {l : List Int} (h : rdL w = none ∨ l.length = 319) : xrW rdC rdE z (i : Int) s (bA w) l = some (.ret, [.i 81, .l l], []) := by
  unfold xrW
  cases hr : rdL w with
  | none => rw [(rd_none hr).2]; rfl
  | some c =>
    have hl : l.length = 319 := by rcases h with h | h; rw [hr] at h; cases h; exact h
    rw [(rd_some hr).2, decide_eq_true (rfl : (0 : Int) = 0), decide_eq_true (show Int.ofNat l.length = 319 by rw [hl]; rfl)]; rfl
theorem xrW_ok {z : Int} {i : Nat} {s : ByteArray} {w : List UInt8} {l : List Int} {c : Nat} (h : rdL w = some c) (hl : l.length ≠ 319) (hl2 : l.length ≤ 319) (hi : i ≤ 1000000000) : xrW rdC rdE z (i : Int) s (bA w) l = some (.normal, [.s s, .i z, .s ⟨#[]⟩, .i ((i + 1 : Nat) : Int), .l (l ++ [(c : Int)])], []) := by
  unfold xrW
  rw [(rd_some h).1, (rd_some h).2, decide_eq_true (rfl : (0 : Int) = 0), decide_eq_false (show ¬ Int.ofNat l.length = 319 from fun q => hl (by have : (l.length : Int) = 319 := q; omega)), decide_eq_true (show (l ++ [(c : Int)]).length * 2 ≤ 70368744177664 by rw [List.length_append, List.length_singleton]; omega), wr64 (x := (i : Int) + 1) (by omega) (by omega)]
  rfl
theorem xr_loop (rd : Option Nat) (z : Int) (s : ByteArray) (hs : lenS s ≤ 1000000) : ∀ x : Nat × List UInt8 × List Int, (x.1 ≤ lenS s + 1 ∧ x.2.1.length ≤ x.1 ∧ x.2.2.length ≤ 319) →
    SimC Tryd.prog 0 rd (.loop xrLp) (xrT.at [.s s, .i z, .s (bA x.2.1), .i (x.1 : Int), .l x.2.2]) (xrFin z (rmQ s.data.toList x.1 x.2.1 x.2.2)).1 (xrX.at (xrFin z (rmQ s.data.toList x.1 x.2.1 x.2.2)).2) := by
  refine loop_of_rounds (C := orcM textsL (tabRd rdC rdE) plainL) (L := noLoops) (N := 100) (me := 28) (T := xrT) (T' := xrX) (orcM_ok tabRd_ok plainL_ok) mixed noLoops_ok (by kernel_rfl) (by kernel_rfl) (X := Nat × List UInt8 × List Int)
    (fun x => [.s s, .i z, .s (bA x.2.1), .i (x.1 : Int), .l x.2.2]) (fun x => x.1 ≤ lenS s + 1 ∧ x.2.1.length ≤ x.1 ∧ x.2.2.length ≤ 319) (fun x => lenS s + 1 - x.1) (fun x => xrFin z (rmQ s.data.toList x.1 x.2.1 x.2.2)) ?_
  rintro ⟨i, w, l⟩ ⟨hi, hw, hl⟩
  dsimp only at hi hw hl ⊢
  have h := xr_round rdC rdE rd z (i : Int) s (bA w) l
  have hln : s.data.toList.length = lenS s := rfl
  rw [show Int.ofNat (lenS s) = (lenS s : Int) from rfl] at h
  rcases Nat.lt_or_ge i (lenS s) with hlt | hge
  · have hk : i < s.data.toList.length := hlt
    have hQ : rmQ s.data.toList i w l = rmF (s.data.toList[i] :: s.data.toList.drop (i + 1)) w l := by
      unfold rmQ
      rw [if_pos (by omega), List.drop_eq_getElem_cons hk]
    have hQ1 : ∀ w' l', rmQ s.data.toList (i + 1) w' l' = rmF (s.data.toList.drop (i + 1)) w' l' := fun w' l' => by unfold rmQ; rw [if_pos (by omega)]
    rw [decide_eq_true (show (i : Int) ≤ (lenS s : Int) by omega), decide_eq_true (show (i : Int) < (lenS s : Int) by omega), chAt_at hk, chAt_at hk, decide_eq_true (show lenS (bA w) + 1 ≤ 9223372036854775807 by show w.length + 1 ≤ _; omega), wr64 (x := (i : Int) + 1) (by omega) (by omega), bytesOf_one] at h
    rw [hQ]
    by_cases hc : s.data.toList[i] = 32
    · have hF : rmF (s.data.toList[i] :: s.data.toList.drop (i + 1)) w l = (match rdL w with | none => (false, l) | some c => if l.length = 319 then (false, l) else rmF (s.data.toList.drop (i + 1)) [] (l ++ [(c : Int)])) := by
        conv => lhs; unfold rmF
        rw [if_pos hc]
      rw [hc] at h
      rw [hF]
      cases hr : rdL w with
      | none =>
        rw [xrW_bad (.inl hr)] at h
        exact ⟨_, _, _, h, codes0, .inr ⟨by simp, rfl⟩⟩
      | some c =>
        simp only
        by_cases h9 : l.length = 319
        · rw [xrW_bad (.inr h9)] at h
          rw [if_pos h9]
          exact ⟨_, _, _, h, codes0, .inr ⟨by simp, rfl⟩⟩
        · rw [xrW_ok hr h9 hl (by omega)] at h
          rw [if_neg h9]
          exact ⟨_, _, _, h, codes0, .inl ⟨rfl, (i + 1, [], l ++ [(c : Int)]), rfl, ⟨by simp only; omega, by simp, by simp only [List.length_append, List.length_singleton]; omega⟩, by simp only; omega, by simp only; rw [hQ1]⟩⟩
    · have hF : rmF (s.data.toList[i] :: s.data.toList.drop (i + 1)) w l = rmF (s.data.toList.drop (i + 1)) (w ++ [s.data.toList[i]]) l := by
        conv => lhs; unfold rmF
        rw [if_neg hc]
      have hn : decide (((s.data.toList[i]).toNat : Int) = 32) = false := by
        refine decide_eq_false fun e2 => hc ?_
        have e3 : (s.data.toList[i]).toNat = 32 := by omega
        exact UInt8.toNat_inj.1 e3
      rw [hn] at h
      rw [hF]
      exact ⟨_, _, _, h, codes0, .inl ⟨rfl, (i + 1, w ++ [s.data.toList[i]], l), rfl, ⟨by simp only; omega, by simp only [List.length_append, List.length_singleton]; omega, hl⟩, by simp only; omega, by simp only; rw [hQ1]⟩⟩
  · rcases Nat.lt_or_ge i (lenS s + 1) with h1 | h1
    · obtain rfl : i = lenS s := by omega
      have hQ : rmQ s.data.toList (lenS s) w l = rmF [] w l := by
        unfold rmQ
        rw [if_pos (by omega), List.drop_eq_nil_of_le (by omega)]
      have hQ1 : ∀ w' l', rmQ s.data.toList (lenS s + 1) w' l' = (true, l') := fun w' l' => by unfold rmQ; rw [if_neg (by omega)]
      have hF : rmF [] w l = (match rdL w with | none => (false, l) | some c => if l.length = 319 then (false, l) else (true, l ++ [(c : Int)])) := by
        conv => lhs; unfold rmF
      rw [decide_eq_true (show (lenS s : Int) ≤ (lenS s : Int) by omega), decide_eq_false (show ¬ (lenS s : Int) < (lenS s : Int) by omega)] at h
      simp only [cond_true, cond_false] at h
      rw [hQ, hF]
      cases hr : rdL w with
      | none =>
        rw [xrW_bad (.inl hr)] at h
        exact ⟨_, _, _, h, codes0, .inr ⟨by simp, rfl⟩⟩
      | some c =>
        simp only
        by_cases h9 : l.length = 319
        · rw [xrW_bad (.inr h9)] at h
          rw [if_pos h9]
          exact ⟨_, _, _, h, codes0, .inr ⟨by simp, rfl⟩⟩
        · rw [xrW_ok hr h9 hl (by omega)] at h
          rw [if_neg h9]
          exact ⟨_, _, _, h, codes0, .inl ⟨rfl, (lenS s + 1, [], l ++ [(c : Int)]), rfl, ⟨by simp, by simp, by simp only [List.length_append, List.length_singleton]; omega⟩, by simp only; omega, by simp only; rw [hQ1]⟩⟩
    · obtain rfl : i = lenS s + 1 := by omega
      have hQ : rmQ s.data.toList (lenS s + 1) w l = (true, l) := by unfold rmQ; rw [if_neg (by omega)]
      rw [decide_eq_false (show ¬ ((lenS s + 1 : Nat) : Int) ≤ (lenS s : Int) by omega), cond_false] at h
      rw [hQ]
      exact ⟨_, _, _, h, codes0, .inr ⟨by simp, rfl⟩⟩
end Go.Proofs.YtpehklboickdpaaDoor
