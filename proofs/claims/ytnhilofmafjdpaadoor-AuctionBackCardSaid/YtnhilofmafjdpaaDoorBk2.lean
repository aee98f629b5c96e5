/- Chapter 9: the law AuctionBack: the loop over the table. -/
import Derived.Test.YtnhilofmafjdpaaDoorBk
namespace Go.Proofs.YtnhilofmafjdpaaDoor
open Go Go.Eng
noncomputable def b1G (CQ : List Int → Int) (r o : Bool) (d e w f g m c n i : Int) (tl tb : List ByteArray) (xs l bk : List Int) (s : ByteArray) : RT :=
  bif !decide (Int.ofNat (lenS s) = 20) then some (.ret, [.b false, .i d, .i e, .i w, .i f, .b o, .i g, .i m, .i c, .ss tl, .l xs, .l l, .ss tb, .l bk], []) else
  cond (codesB [(b2Lp, b2Lp)]) (bif decide ((0 : Int) = 0 ∧ Int.ofNat (bytesI s).length = Int.ofNat (bytesI s).length ∧ (bytesI s).length ≤ 1000 ∧ 0 ≤ m ∧ m ≤ 1000000000) then
    some (.normal, [.b r, .i d, .i e, .i w, .i f, .b o, .i g, .i (m + CQ (bytesI s)), .i c, .i n, .i (wr .i64 (i + 1)), .ss tl, .l xs, .l l, .ss tb, .l bk], []) else none) none
theorem b1_round (B : BN) (CQ : List Int → Int) (nn : Bool) (rd : Option Nat) (r o : Bool) (d e w f g m c n i : Int) (tl tb : List ByteArray) (xs l bk : List Int) : roundT Tryd.prog (orcB B emptyTab plainL) (b2L CQ nn) 100 2 rd 10 b1Lp (b1T nn) (b1X nn) [.b r, .i d, .i e, .i w, .i f, .b o, .i g, .i m, .i c, .i n, .i i, .ss tl, .l xs, .l l, .ss tb, .l bk] =
    bif decide (i < n) then atS tb i (fun s => b1G CQ r o d e w f g m c n i tl tb xs l bk s) else some (.exit 0, [.b r, .i d, .i e, .i w, .i f, .b o, .i g, .i m, .i c, .ss tl, .l xs, .l l, .ss tb, .l bk], []) := by cases nn <;> kernel_rfl
def sumQ : List ByteArray → Int
  | [] => 0
  | s :: r => cntQ (bytesI s) + sumQ r
def twS (tb : List ByteArray) : Bool := tb.all fun s => decide (lenS s = 20)
theorem bytesI_len (s : ByteArray) : (bytesI s).length = lenS s := by simp [bytesI, lenS]
theorem b1_loop (nn : Bool) (rd : Option Nat) (r o : Bool) (d e w f g c : Int) (tl tb : List ByteArray) (xs l bk : List Int) (ht : tb.length ≤ 1000) (h20 : twS tb = true) : ∀ x : Nat × Int, (x.1 ≤ tb.length ∧ 0 ≤ x.2 ∧ x.2 ≤ 20 * x.1) →
    SimC Tryd.prog 2 rd (.loop b1Lp) ((b1T nn).at [.b r, .i d, .i e, .i w, .i f, .b o, .i g, .i x.2, .i c, .i (tb.length : Int), .i (x.1 : Int), .ss tl, .l xs, .l l, .ss tb, .l bk]) (.exit 0) ((b1X nn).at [.b r, .i d, .i e, .i w, .i f, .b o, .i g, .i (x.2 + sumQ (tb.drop x.1)), .i c, .ss tl, .l xs, .l l, .ss tb, .l bk]) := by
  refine loop_of_rounds (C := orcB bN emptyTab plainL) (L := b2L cntQ nn) (N := 100) (me := 10) (T := b1T nn) (T' := b1X nn) (orcB_ok emptyTab_ok plainL_ok) mixed (b2L_ok nn) (by cases nn <;> kernel_rfl) (by cases nn <;> kernel_rfl) (X := Nat × Int)
    (fun x => [.b r, .i d, .i e, .i w, .i f, .b o, .i g, .i x.2, .i c, .i (tb.length : Int), .i (x.1 : Int), .ss tl, .l xs, .l l, .ss tb, .l bk]) (fun x => x.1 ≤ tb.length ∧ 0 ≤ x.2 ∧ x.2 ≤ 20 * x.1) (fun x => tb.length - x.1)
    (fun x => (.exit 0, [.b r, .i d, .i e, .i w, .i f, .b o, .i g, .i (x.2 + sumQ (tb.drop x.1)), .i c, .ss tl, .l xs, .l l, .ss tb, .l bk])) ?_
  rintro ⟨i, m⟩ ⟨hi, hm, hm2⟩
  dsimp only at hi hm hm2 ⊢
  have h := b1_round bN cntQ nn rd r o d e w f g m c (tb.length : Int) (i : Int) tl tb xs l bk
  rcases Nat.lt_or_ge i tb.length with hlt | hge
  · have hs : lenS tb[i] = 20 := of_decide_eq_true (List.all_eq_true.1 h20 _ (List.getElem_mem hlt))
    rw [decide_eq_true (show (i : Int) < (tb.length : Int) by omega), cond_true, atS_at hlt] at h
    unfold b1G at h
    rw [hs, codesB_iff.2 (by intro x hx; simp at hx; rw [hx]), decide_eq_true (show (0 : Int) = 0 ∧ Int.ofNat (bytesI tb[i]).length = Int.ofNat (bytesI tb[i]).length ∧ (bytesI tb[i]).length ≤ 1000 ∧ 0 ≤ m ∧ m ≤ 1000000000 from ⟨rfl, rfl, by rw [bytesI_len]; omega, hm, by omega⟩), wr64 (by omega) (by omega)] at h
    rw [List.drop_eq_getElem_cons hlt]
    simp only [sumQ]
    have hr := cntQ_range (bytesI tb[i])
    rw [bytesI_len, hs] at hr
    exact ⟨_, _, _, h, codes0, .inl ⟨rfl, (i + 1, m + cntQ (bytesI tb[i])), rfl, ⟨by simp only; omega, by simp only; omega, by simp only; omega⟩, by simp only; omega, by simp only; rw [show m + cntQ (bytesI tb[i]) + sumQ (tb.drop (i + 1)) = m + (cntQ (bytesI tb[i]) + sumQ (tb.drop (i + 1))) by omega]⟩⟩
  · rw [decide_eq_false (show ¬ (i : Int) < (tb.length : Int) by omega), cond_false] at h
    refine ⟨_, _, _, h, codes0, .inr ⟨by simp, ?_⟩⟩
    rw [List.drop_eq_nil_of_le (by omega)]
    simp only [sumQ, Int.add_zero]
noncomputable def b1Tree (C : List ByteArray → Bool) (SQ : List ByteArray → Int) (nn : Bool) : List PV → Fin
  | [.b r, .i d, .i e, .i w, .i f, .b o, .i g, .i m, .i c, .i n, .i i, .ss tl, .l xs, .l l, .ss tb, .l bk] => .br (decide (i = 0 ∧ m = 0 ∧ n = Int.ofNat tb.length) && C tb) (.leaf (.exit 0) ((b1X nn).at [.b r, .i d, .i e, .i w, .i f, .b o, .i g, .i (SQ tb), .i c, .ss tl, .l xs, .l l, .ss tb, .l bk])) .no
  | _ => .no
def bkC (tb : List ByteArray) : Bool := decide (tb.length ≤ 1000) && twS tb
noncomputable def b1L (C : List ByteArray → Bool) (SQ : List ByteArray → Int) (nn : Bool) : Loops := sums (fun n => match n with | 9 => some (lsumF 2 (b1T nn) b1Lp (b1Tree C SQ nn)) | _ => none)
theorem b1L_ok (nn : Bool) : loopsOk Tryd.prog (b1L bkC sumQ nn) := by
  intro n g hg
  simp only [b1L, sums] at hg
  split at hg
  · cases hg
    refine lsumF_ok (by cases nn <;> kernel_rfl) (fun rd ps e1 st1 hq => ?_)
    unfold b1Tree at hq
    split at hq
    · rename_i r d e w f o g m c n i tl xs l tb bk
      simp only [Fin.pick] at hq
      cases hc : (decide (i = 0 ∧ m = 0 ∧ n = Int.ofNat tb.length) && bkC tb) with
      | false => rw [hc] at hq; cases hq
      | true =>
        rw [hc, cond_true] at hq
        simp only [bkC, Bool.and_eq_true, decide_eq_true_eq] at hc
        obtain ⟨⟨rfl, rfl, rfl⟩, h1, h2⟩ := hc
        have h := b1_loop nn rd r o d e w f g c tl tb xs l bk h1 h2 (0, 0) ⟨by simp, by simp, by simp⟩
        dsimp only at h
        rw [List.drop_zero, Int.zero_add] at h
        cases hq
        exact h
    · cases hq
  · cases hg
end Go.Proofs.YtnhilofmafjdpaaDoor
