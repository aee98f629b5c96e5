/- Chapter 8: the reference's TextAll: its loop. -/
import Derived.Test.YtpehklboickdpaaDoorQR
namespace Go.Proofs.YtpehklboickdpaaDoor
open Go Go.Eng
def atS {α : Type} (l : List ByteArray) (i : Int) (K : ByteArray → Option α) : Option α := bif decide (0 ≤ i ∧ i < Int.ofNat l.length) then (match l[i.toNat]? with | some v => K v | none => none) else none
theorem atS_at {α : Type} {l : List ByteArray} {i : Nat} (h : i < l.length) {K : ByteArray → Option α} : atS l (i : Int) K = K l[i] := by
  unfold atS
  rw [decide_eq_true (show 0 ≤ (i : Int) ∧ (i : Int) < Int.ofNat l.length from ⟨by omega, by show (i : Int) < (l.length : Int); omega⟩), cond_true, show ((i : Int)).toNat = i from rfl, List.getElem?_eq_getElem h]
noncomputable def xtW (NL : List ByteArray) (e : ByteArray) (z i : Int) (s : ByteArray) (xs : List Int) : RT := atU xs i (fun c => atS NL c (fun t => bif decide (lenS s + lenS t ≤ 9223372036854775807) then some (.normal, [.s e, .i z, .s (apS s t), .i (wr .i64 (i + 1)), .l xs], []) else none))
theorem xt_round (NL : List ByteArray) (nn : Bool) (rd : Option Nat) (e : ByteArray) (z i : Int) (s : ByteArray) (xs : List Int) : roundT Tryd.prog (orcM NL emptyTab plainL) noLoops 100 1 rd 27 xtLp (xtT nn) (xtX nn) [.s e, .i z, .s s, .i i, .l xs] =
    bif decide (i < Int.ofNat xs.length) then atU xs i (fun c => bif !decide (wr .i64 c < Int.ofNat NL.length) then some (.ret, [.s ⟨#[]⟩, .i 80, .s s, .l xs], []) else bif decide (0 < i) then bif decide (lenS s + 1 ≤ 9223372036854775807) then xtW NL e z i (apS s blS) xs else none else xtW NL e z i s xs)
    else some (.exit 0, [.s e, .i z, .s s, .l xs], []) := by cases nn <;> kernel_rfl
/-- Whether all are calls; the text so far. -/
def rtF : List Int → Bool → ByteArray → Bool × ByteArray
  | [], _, s => (true, s)
  | c :: r, f, s => bif decide (c ≤ 37) then rtF r false (apS (bif f then s else apS s blS) (txt c)) else (false, s)
theorem rtF_G : ∀ (xs : List Int) (f : Bool) (s : ByteArray), rtG xs f s = bif (rtF xs f s).1 then some (rtF xs f s).2 else none
  | [], _, _ => rfl
  | c :: r, f, s => by
    unfold rtG rtF
    cases decide (c ≤ 37) with
    | true => exact rtF_G r _ _
    | false => rfl
theorem txt_len : ∀ c : Int, lenS (txt c) ≤ 3 := fun c => by
  unfold txt
  have h : ∀ k : Nat, k < 38 → lenS (textsL.getD k ⟨#[]⟩) ≤ 3 := by decide
  by_cases hk : c.toNat < 38
  · exact h _ hk
  · rw [List.getD_eq_getElem?_getD, List.getElem?_eq_none (by show 38 ≤ c.toNat; omega)]; decide
theorem ap_len (a b : ByteArray) : lenS (apS a b) = lenS a + lenS b := by unfold lenS apS; simp
theorem xtW_is {e : ByteArray} {z : Int} {i : Nat} {s : ByteArray} {xs : List Int} (hi : i < xs.length) (hl : xs.length ≤ 1000) (hu : 0 ≤ xs[i]) (hc : xs[i] ≤ 37) (hs : lenS s ≤ 100000) :
    xtW textsL e z (i : Int) s xs = some (.normal, [.s e, .i z, .s (apS s (txt xs[i])), .i ((i + 1 : Nat) : Int), .l xs], []) := by
  unfold xtW
  rw [atU_at hi]
  obtain ⟨k, hk⟩ : ∃ k : Nat, xs[i] = (k : Int) := ⟨xs[i].toNat, by omega⟩
  have hk2 : k < textsL.length := by show k < 38; omega
  have ht : txt xs[i] = textsL[k] := by unfold txt; rw [hk, List.getD_eq_getElem?_getD, show ((k : Int)).toNat = k from rfl, List.getElem?_eq_getElem hk2]; rfl
  have h3 := txt_len xs[i]
  rw [ht] at h3 ⊢
  rw [hk, atS_at hk2, decide_eq_true (show lenS s + lenS textsL[k] ≤ 9223372036854775807 by omega), wr64 (x := (i : Int) + 1) (by omega) (by omega)]
  rfl
def xtFin (e : ByteArray) (z : Int) (xs : List Int) (q : Bool × ByteArray) : XE × List PV := if q.1 = true then (.exit 0, [.s e, .i z, .s q.2, .l xs]) else (.ret, [.s ⟨#[]⟩, .i 80, .s q.2, .l xs])
theorem xt_loop (nn : Bool) (rd : Option Nat) (e : ByteArray) (z : Int) (xs : List Int) (hu : allU xs = true) (hl : xs.length ≤ 1000) : ∀ x : Nat × ByteArray, (x.1 ≤ xs.length ∧ lenS x.2 ≤ 4 * x.1) →
    SimC Tryd.prog 1 rd (.loop xtLp) ((xtT nn).at [.s e, .i z, .s x.2, .i (x.1 : Int), .l xs]) (xtFin e z xs (rtF (xs.drop x.1) (decide (x.1 = 0)) x.2)).1 ((xtX nn).at (xtFin e z xs (rtF (xs.drop x.1) (decide (x.1 = 0)) x.2)).2) := by
  refine loop_of_rounds (C := orcM textsL emptyTab plainL) (L := noLoops) (N := 100) (me := 27) (T := xtT nn) (T' := xtX nn) (orcM_ok emptyTab_ok plainL_ok) mixed noLoops_ok (by cases nn <;> kernel_rfl) (by cases nn <;> kernel_rfl) (X := Nat × ByteArray)
    (fun x => [.s e, .i z, .s x.2, .i (x.1 : Int), .l xs]) (fun x => x.1 ≤ xs.length ∧ lenS x.2 ≤ 4 * x.1) (fun x => xs.length - x.1) (fun x => xtFin e z xs (rtF (xs.drop x.1) (decide (x.1 = 0)) x.2)) ?_
  rintro ⟨i, s⟩ ⟨hi, hs⟩
  dsimp only at hi hs ⊢
  have h := xt_round textsL nn rd e z (i : Int) s xs
  rw [show Int.ofNat xs.length = (xs.length : Int) from rfl] at h
  rcases Nat.lt_or_ge i xs.length with hlt | hge
  · have hx := allU_get hu hlt
    rw [decide_eq_true (show (i : Int) < (xs.length : Int) by omega), cond_true, atU_at hlt, wr64 (x := xs[i]) (by omega) (by omega), show Int.ofNat textsL.length = 38 from rfl] at h
    rw [List.drop_eq_getElem_cons hlt, show rtF (xs[i] :: List.drop (i + 1) xs) (decide (i = 0)) s = (bif decide (xs[i] ≤ 37) then rtF (List.drop (i + 1) xs) false (apS (bif decide (i = 0) then s else apS s blS) (txt xs[i])) else (false, s)) from rfl]
    by_cases hc : xs[i] ≤ 37
    · rw [decide_eq_true (show xs[i] < 38 by omega)] at h
      rw [decide_eq_true hc]
      simp only [Bool.not_true, cond_false, cond_true] at h ⊢
      by_cases h0 : i = 0
      · subst h0
        rw [decide_eq_false (show ¬ (0 : Int) < ((0 : Nat) : Int) by omega), cond_false, xtW_is hlt hl hx.1 hc (by omega)] at h
        have h3 := txt_len xs[0]
        refine ⟨_, _, _, h, codes0, .inl ⟨rfl, (0 + 1, apS s (txt xs[0])), rfl, ⟨by simp only; omega, by simp only; rw [ap_len]; omega⟩, by simp only; omega, rfl⟩⟩
      · rw [decide_eq_true (show (0 : Int) < (i : Int) by omega), cond_true, decide_eq_true (show lenS s + 1 ≤ 9223372036854775807 by omega), cond_true, xtW_is hlt hl hx.1 hc (by rw [ap_len]; show lenS s + 1 ≤ 100000; omega)] at h
        have h3 := txt_len xs[i]
        rw [decide_eq_false h0]
        refine ⟨_, _, _, h, codes0, .inl ⟨rfl, (i + 1, apS (apS s blS) (txt xs[i])), rfl, ⟨by simp only; omega, by simp only; rw [ap_len, ap_len]; show lenS s + 1 + _ ≤ _; omega⟩, by simp only; omega, ?_⟩⟩
        simp only [cond_false]
        rw [decide_eq_false (show ¬ i + 1 = 0 by omega)]
    · rw [decide_eq_false (show ¬ xs[i] < 38 by omega)] at h
      rw [decide_eq_false hc]
      exact ⟨_, _, _, h, codes0, .inr ⟨by simp, rfl⟩⟩
  · rw [decide_eq_false (show ¬ (i : Int) < (xs.length : Int) by omega), cond_false] at h
    refine ⟨_, _, _, h, codes0, .inr ⟨by simp, ?_⟩⟩
    rw [List.drop_eq_nil_of_le (by omega)]; rfl
structure XR where
  TB : List Int → Bool
  TS : List Int → ByteArray
def xR : XR := ⟨fun xs => (rtF xs true ⟨#[]⟩).1, fun xs => (rtF xs true ⟨#[]⟩).2⟩
noncomputable def xtTree (X : XR) (nn : Bool) : List PV → Fin
  | [.s e, .i z, .s s, .i i, .l xs] => .br (decide (i = 0 ∧ lenS s = 0 ∧ xs.length ≤ 1000) && allU xs) (.br (X.TB xs) (.leaf (.exit 0) ((xtX nn).at [.s e, .i z, .s (X.TS xs), .l xs])) (.leaf .ret ((xtX nn).at [.s ⟨#[]⟩, .i 80, .s (X.TS xs), .l xs]))) .no
  | _ => .no
noncomputable def xtL (X : XR) (nn : Bool) : Loops := sums (fun n => match n with | 5 => some (lsumF 1 (xtT nn) xtLp (xtTree X nn)) | _ => none)
theorem xtL_ok (nn : Bool) : loopsOk Tryd.prog (xtL xR nn) := by
  intro n g hg
  simp only [xtL, sums] at hg
  split at hg
  · cases hg
    refine lsumF_ok (by cases nn <;> kernel_rfl) (fun rd ps e1 st1 hq => ?_)
    unfold xtTree at hq
    split at hq
    · rename_i e z s i xs
      simp only [Fin.pick] at hq
      cases hc : (decide (i = 0 ∧ lenS s = 0 ∧ xs.length ≤ 1000) && allU xs) with
      | false => rw [hc] at hq; cases hq
      | true =>
        rw [hc, cond_true] at hq
        simp only [Bool.and_eq_true, decide_eq_true_eq] at hc
        obtain ⟨⟨rfl, h1, h2⟩, h3⟩ := hc
        have hs : s = ⟨#[]⟩ := by
          obtain ⟨⟨l⟩⟩ := s
          have : l = [] := List.eq_nil_of_length_eq_zero h1
          subst this; rfl
        subst hs
        have h := xt_loop nn rd e z xs h3 h2 (0, ⟨#[]⟩) ⟨Nat.zero_le _, by simp [lenS]⟩
        dsimp only at h
        rw [List.drop_zero, decide_eq_true (rfl : (0 : Nat) = 0)] at h
        simp only [xR] at hq
        unfold xtFin at h
        generalize rtF xs true ⟨#[]⟩ = q at hq h
        obtain ⟨b, t⟩ := q
        cases b with
        | true => cases hq; exact h
        | false => cases hq; exact h
    · cases hq
  · cases hg
theorem xtext_eval (X : XR) (nn : Bool) (xs : List Int) : evalFn Tryd.prog (orcM textsL emptyTab plainL) (xtL X nn) 100 27 Tryd.f27 [.gs 0] [.rs nn 1 (.ints .u8 xs)] (fun v _ => some v) =
    bif decide (319 < Int.ofNat xs.length) then some (.tuple [.str ⟨#[]⟩, .int .i64 5]) else cond (codesB [(xtLp, xtLp)]) (bif decide ((0 : Int) = 0 ∧ lenS ⟨#[]⟩ = 0 ∧ xs.length ≤ 1000) && allU xs then bif X.TB xs then some (.tuple [.str (X.TS xs), .int .i64 0]) else some (.tuple [.str ⟨#[]⟩, .int .i64 80]) else none) none := by cases nn <;> kernel_rfl
theorem rs_ro {nn : Bool} {row : Row} : ∀ (b : Nat) blk, ([.rs nn 1 row] : List Blk)[b]? = some blk → blk.mine = false := by
  intro b blk hb
  match b, hb with
  | 0, hb => cases hb; rfl
  | _ + 1, hb => simp at hb
theorem xtext_fn (nn : Bool) {xs : List Int} (hu : allU xs = true) : FnOK Tryd.prog 27 [.gs 0] [.rs nn 1 (.ints .u8 xs)] (.tuple [.str (taS xs), .int .i64 (taE xs)]) [.rs nn 1 (.ints .u8 xs)] := by
  have hv : evalFn Tryd.prog (orcM textsL emptyTab plainL) (xtL xR nn) 100 27 Tryd.f27 [.gs 0] [.rs nn 1 (.ints .u8 xs)] (fun v _ => some v) = some (.tuple [.str (taS xs), .int .i64 (taE xs)]) := by
    rw [xtext_eval]
    by_cases hl : 319 < xs.length
    · obtain ⟨h1, h2⟩ := rt_long hl
      rw [decide_eq_true (show 319 < Int.ofNat xs.length by show 319 < (xs.length : Int); omega), h1, h2]; rfl
    · rw [decide_eq_false (show ¬ 319 < Int.ofNat xs.length from fun h => hl (by have : 319 < (xs.length : Int) := h; omega)), lpCd, decide_eq_true (show (0 : Int) = 0 ∧ lenS ⟨#[]⟩ = 0 ∧ xs.length ≤ 1000 from ⟨rfl, rfl, by omega⟩), hu]
      simp only [cond_false, cond_true, Bool.and_self, xR]
      have hG := rtF_G xs true ⟨#[]⟩
      cases ha : allK xs with
      | true =>
        obtain ⟨h1, h2⟩ := rt_ok hu (by omega) ha
        rw [h1] at hG
        cases hb : (rtF xs true ⟨#[]⟩).1 with
        | true => rw [hb] at hG; rw [h2, Option.some.inj hG]; rfl
        | false => rw [hb] at hG; cases hG
      | false =>
        obtain ⟨h1, h2, h3⟩ := rt_bad (xs := xs) (by omega) ha
        rw [h1] at hG
        cases hb : (rtF xs true ⟨#[]⟩).1 with
        | true => rw [hb] at hG; cases hG
        | false => rw [h2, h3]; rfl
  obtain ⟨v1, h1, hk, hok⟩ := evalFn_ok (orcM_ok emptyTab_ok plainL_ok) mixed Tryd.func27 (xtL_ok nn) hv
  cases hk
  exact hok.plain rfl rs_ro
end Go.Proofs.YtpehklboickdpaaDoor
