/- Texts merged: Bk, Bk2. -/
import Derived.Test.YtnhilofmafjdpaaDoorRd4
import Derived.Test.YtnhilofmafjdpaaDoorKit3
/- Chapter 9: the law AuctionBack: its loops. -/
namespace Go.Proofs.YtnhilofmafjdpaaDoor
open Go Go.Eng
structure BN where
  VD : List ByteArray → Int
  VE : List ByteArray → Int
  VL : List ByteArray → List Int
  K : NK
def bN : BN := ⟨rvD, rvE, rvL, nK⟩
noncomputable def gRead9 (B : BN) : List V → List Blk → Option (Bool × V × List Blk)
  | [.gs 1], [.glob 0 (.strs l), .rs _ 1 (.strs tb)] => some (pB (l = textsL), .tuple [.int .u8 (B.VD tb), .gs 2, .int .i64 (B.VE tb)], [.grow false 5 1 (.ints .u8 (B.VL tb))])
  | _, _ => none
noncomputable def hTabB (B : BN) : HTab := addH 29 (gRead9 B) (hTabK B.K)
def domB : FuncId → Bool := fun f => Nat.beq f 29 || domK f
def glB : FuncId → List Nat := fun f => bif Nat.beq f 29 || (Nat.beq f 20 || Nat.beq f 13) then [0] else []
def nrR : FuncId → Option Row := fun f => bif Nat.beq f 34 || Nat.beq f 29 then some (.strs []) else some (.ints .u8 [])
theorem hTabB_ok : HTabOk Tryd.prog (hTabB bN) := by
  refine addH_ok ?_ hTabK_ok
  intro args h c v nb hq hc
  unfold gRead9 at hq
  split at hq
  · cases hq
    rw [pB_iff] at hc
    subst hc
    exact ⟨.of Tryd.func29 (by kernel_rfl), read29_fn _ _⟩
  · cases hq
noncomputable abbrev orcB (B : BN) (T : PTab) (LL : FuncId → Loops) : Oracle := inl Tryd.prog ftab T LL 100 never domB (orElse isCl (hOrcP nrR (hTabB B)) (hOrcN glB nrR (hTabB B))) 20
theorem orcB_ok {T : PTab} (hT : PTabOk Tryd.prog T) {LL : FuncId → Loops} (hL : ∀ f, loopsOk Tryd.prog (LL f)) : OracleOk Tryd.prog (orcB bN T LL) := inl_ok (orElse_ok (hOrcP_ok hTabB_ok) (hOrcN_ok hTabB_ok)) ftab_ok hT hL mixed 20
noncomputable def b1Lp : Code := loopOf 9 Tryd.f10
noncomputable def b2Lp : Code := loopOf 14 Tryd.f10
def b1T (nn : Bool) : Tm := ⟨mkS [(6, .bool), (7, .int .u8), (8, .gs 2), (9, .gs 3), (10, .int .i64), (11, .int .u8), (12, .gs 4), (13, .int .i64), (14, .bool), (15, .int .i64), (16, .int .i64), (17, .int .i64), (54, .gs 3), (55, .int .i64), (56, .int .i64)] 0 114, [.glob 0 strsT, .rs nn 1 u8s, .grow false 5 1 u8s, .grow false 9 1 strsT, .grow false 5 1 u8s], []⟩
def b1X (nn : Bool) : Tm := ⟨mkS [(6, .bool), (7, .int .u8), (8, .gs 2), (9, .gs 3), (10, .int .i64), (11, .int .u8), (12, .gs 4), (13, .int .i64), (14, .bool), (15, .int .i64), (16, .int .i64), (17, .int .i64)] 0 114, [.glob 0 strsT, .rs nn 1 u8s, .grow false 5 1 u8s, .grow false 9 1 strsT, .grow false 5 1 u8s], []⟩
def b2T (nn : Bool) : Tm := ⟨mkS [(6, .bool), (7, .int .u8), (8, .gs 2), (9, .gs 3), (10, .int .i64), (11, .int .u8), (12, .gs 4), (13, .int .i64), (14, .bool), (15, .int .i64), (16, .int .i64), (17, .int .i64), (54, .gs 3), (55, .int .i64), (56, .int .i64), (64, .gs 5), (65, .int .i64), (66, .int .i64)] 0 114, [.glob 0 strsT, .rs nn 1 u8s, .grow false 5 1 u8s, .grow false 9 1 strsT, .grow false 5 1 u8s, .grow true 5 1 u8s], []⟩
theorem b2_round (B : BN) (nn : Bool) (rd : Option Nat) (r o : Bool) (d e w f g m c n i k j : Int) (tl tb : List ByteArray) (xs l bk bs : List Int) : roundT Tryd.prog (orcB B emptyTab plainL) noLoops 100 2 rd 10 b2Lp (b2T nn) (b1T nn) [.b r, .i d, .i e, .i w, .i f, .b o, .i g, .i m, .i c, .i n, .i i, .i k, .i j, .ss tl, .l xs, .l l, .ss tb, .l bk, .l bs] =
    bif decide (j < k) then atU bs j (fun x => bif decide (x = 63) then some (.normal, [.b r, .i d, .i e, .i w, .i f, .b o, .i g, .i (wr .i64 (m + 1)), .i c, .i n, .i i, .i k, .i (wr .i64 (j + 1)), .ss tl, .l xs, .l l, .ss tb, .l bk, .l bs], []) else
      some (.normal, [.b r, .i d, .i e, .i w, .i f, .b o, .i g, .i m, .i c, .i n, .i i, .i k, .i (wr .i64 (j + 1)), .ss tl, .l xs, .l l, .ss tb, .l bk, .l bs], [])) else some (.exit 2, [.b r, .i d, .i e, .i w, .i f, .b o, .i g, .i m, .i c, .i n, .i i, .ss tl, .l xs, .l l, .ss tb, .l bk], []) := by cases nn <;> kernel_rfl
def cntQ : List Int → Int
  | [] => 0
  | x :: r => (bif decide (x = 63) then 1 else 0) + cntQ r
theorem cntQ_range : ∀ l : List Int, 0 ≤ cntQ l ∧ cntQ l ≤ l.length
  | [] => by simp [cntQ]
  | x :: r => by
    have := cntQ_range r
    simp only [cntQ, List.length_cons]
    cases decide (x = 63) <;> simp only [cond_true, cond_false] <;> omega
theorem b2_loop (nn : Bool) (rd : Option Nat) (r o : Bool) (d e w f g c n i : Int) (tl tb : List ByteArray) (xs l bk bs : List Int) (hb : bs.length ≤ 1000) : ∀ x : Nat × Int, (x.1 ≤ bs.length ∧ 0 ≤ x.2 ∧ x.2 ≤ 1000000000 + x.1) →
    SimC Tryd.prog 2 rd (.loop b2Lp) ((b2T nn).at [.b r, .i d, .i e, .i w, .i f, .b o, .i g, .i x.2, .i c, .i n, .i i, .i (bs.length : Int), .i (x.1 : Int), .ss tl, .l xs, .l l, .ss tb, .l bk, .l bs]) (.exit 2) ((b1T nn).at [.b r, .i d, .i e, .i w, .i f, .b o, .i g, .i (x.2 + cntQ (bs.drop x.1)), .i c, .i n, .i i, .ss tl, .l xs, .l l, .ss tb, .l bk]) := by
  refine loop_of_rounds (C := orcB bN emptyTab plainL) (L := noLoops) (N := 100) (me := 10) (T := b2T nn) (T' := b1T nn) (orcB_ok emptyTab_ok plainL_ok) mixed noLoops_ok (by cases nn <;> kernel_rfl) (by cases nn <;> kernel_rfl) (X := Nat × Int)
    (fun x => [.b r, .i d, .i e, .i w, .i f, .b o, .i g, .i x.2, .i c, .i n, .i i, .i (bs.length : Int), .i (x.1 : Int), .ss tl, .l xs, .l l, .ss tb, .l bk, .l bs]) (fun x => x.1 ≤ bs.length ∧ 0 ≤ x.2 ∧ x.2 ≤ 1000000000 + x.1) (fun x => bs.length - x.1)
    (fun x => (.exit 2, [.b r, .i d, .i e, .i w, .i f, .b o, .i g, .i (x.2 + cntQ (bs.drop x.1)), .i c, .i n, .i i, .ss tl, .l xs, .l l, .ss tb, .l bk])) ?_
  rintro ⟨j, m⟩ ⟨hj, hm, hm2⟩
  dsimp only at hj hm hm2 ⊢
  have h := b2_round bN nn rd r o d e w f g m c n i (bs.length : Int) (j : Int) tl tb xs l bk bs
  rcases Nat.lt_or_ge j bs.length with hlt | hge
  · rw [decide_eq_true (show (j : Int) < (bs.length : Int) by omega), cond_true, atU_at hlt, wr64 (n := m + 1) (by omega) (by omega), wr64 (n := (j : Int) + 1) (by omega) (by omega)] at h
    rw [List.drop_eq_getElem_cons hlt]
    simp only [cntQ]
    cases hx : decide (bs[j] = 63) with
    | true =>
      rw [hx] at h
      exact ⟨_, _, _, h, codes0, .inl ⟨rfl, (j + 1, m + 1), rfl, ⟨by simp only; omega, by simp only; omega, by simp only; omega⟩, by simp only; omega, by simp only [cond_true]; rw [show m + 1 + cntQ (bs.drop (j + 1)) = m + (1 + cntQ (bs.drop (j + 1))) by omega]⟩⟩
    | false =>
      rw [hx] at h
      exact ⟨_, _, _, h, codes0, .inl ⟨rfl, (j + 1, m), rfl, ⟨by simp only; omega, by simp only; omega, by simp only; omega⟩, by simp only; omega, by simp only [cond_false]; rw [show m + (0 + cntQ (bs.drop (j + 1))) = m + cntQ (bs.drop (j + 1)) by omega]⟩⟩
  · rw [decide_eq_false (show ¬ (j : Int) < (bs.length : Int) by omega), cond_false] at h
    refine ⟨_, _, _, h, codes0, .inr ⟨by simp, ?_⟩⟩
    rw [List.drop_eq_nil_of_le (by omega)]
    simp only [cntQ, Int.add_zero]
noncomputable def b2Tree (CQ : List Int → Int) (nn : Bool) : List PV → Fin
  | [.b r, .i d, .i e, .i w, .i f, .b o, .i g, .i m, .i c, .i n, .i i, .i k, .i j, .ss tl, .l xs, .l l, .ss tb, .l bk, .l bs] => .br (decide (j = 0 ∧ k = Int.ofNat bs.length ∧ bs.length ≤ 1000 ∧ 0 ≤ m ∧ m ≤ 1000000000)) (.leaf (.exit 2) ((b1T nn).at [.b r, .i d, .i e, .i w, .i f, .b o, .i g, .i (m + CQ bs), .i c, .i n, .i i, .ss tl, .l xs, .l l, .ss tb, .l bk])) .no
  | _ => .no
noncomputable def b2L (CQ : List Int → Int) (nn : Bool) : Loops := sums (fun n => match n with | 14 => some (lsumF 2 (b2T nn) b2Lp (b2Tree CQ nn)) | _ => none)
theorem b2L_ok (nn : Bool) : loopsOk Tryd.prog (b2L cntQ nn) := by
  intro n g hg
  simp only [b2L, sums] at hg
  split at hg
  · cases hg
    refine lsumF_ok (by cases nn <;> kernel_rfl) (fun rd ps e1 st1 hq => ?_)
    unfold b2Tree at hq
    split at hq
    · rename_i r d e w f o g m c n i k j tl xs l tb bk bs
      simp only [Fin.pick] at hq
      cases hc : decide (j = 0 ∧ k = Int.ofNat bs.length ∧ bs.length ≤ 1000 ∧ 0 ≤ m ∧ m ≤ 1000000000) with
      | false => rw [hc] at hq; cases hq
      | true =>
        rw [hc, cond_true] at hq
        simp only [decide_eq_true_eq] at hc
        obtain ⟨rfl, rfl, h1, h2, h3⟩ := hc
        have h := b2_loop nn rd r o d e w f g c n i tl tb xs l bk bs h1 (0, m) ⟨by simp, h2, by simp only; omega⟩
        dsimp only at h
        rw [List.drop_zero] at h
        cases hq
        exact h
    · cases hq
  · cases hg
end Go.Proofs.YtnhilofmafjdpaaDoor

/- Chapter 9: the law AuctionBack: the loop over the table. -/
namespace Go.Proofs.YtnhilofmafjdpaaDoor
open Go Go.Eng
noncomputable def b1G (CQ : List Int → Int) (r o : Bool) (d e w f g m c n i : Int) (tl tb : List ByteArray) (xs l bk : List Int) (s : ByteArray) : RT :=
  bif !decide (Int.ofNat (lenS s) = 20) then some (.ret, [.b false, .i d, .i e, .i w, .i f, .b o, .i g, .i m, .i c, .ss tl, .l xs, .l l, .ss tb, .l bk], []) else
  cond (codesB [(b2Lp, b2Lp)]) (bif decide ((0 : Int) = 0 ∧ Int.ofNat (bytesI s).length = Int.ofNat (bytesI s).length ∧ (bytesI s).length ≤ 1000 ∧ 0 ≤ m ∧ m ≤ 1000000000) then
    some (.normal, [.b r, .i d, .i e, .i w, .i f, .b o, .i g, .i (m + CQ (bytesI s)), .i c, .i n, .i (wr .i64 (i + 1)), .ss tl, .l xs, .l l, .ss tb, .l bk], []) else none) none
theorem b1_round (B : BN) (CQ : List Int → Int) (nn : Bool) (rd : Option Nat) (r o : Bool) (d e w f g m c n i : Int) (tl tb : List ByteArray) (xs l bk : List Int) : roundT Tryd.prog (orcB B emptyTab plainL) (b2L CQ nn) 100 2 rd 10 b1Lp (b1T nn) (b1X nn) [.b r, .i d, .i e, .i w, .i f, .b o, .i g, .i m, .i c, .i n, .i i, .ss tl, .l xs, .l l, .ss tb, .l bk] =
    bif decide (i < n) then atS tb i (fun s => b1G CQ r o d e w f g m c n i tl tb xs l bk s) else some (.exit 0, [.b r, .i d, .i e, .i w, .i f, .b o, .i g, .i m, .i c, .ss tl, .l xs, .l l, .ss tb, .l bk], []) := by cases nn <;> kernel_rfl
def sumQ : List ByteArray → Int
  | [] => 0
  | s :: r => cntQ (bytesI s) + sumQ r
def twS (tb : List ByteArray) : Bool := tb.all fun s => decide (lenS s = 20)
theorem bytesI_len (s : ByteArray) : (bytesI s).length = lenS s := by simp [bytesI, lenS]
theorem b1_loop (nn : Bool) (rd : Option Nat) (r o : Bool) (d e w f g c : Int) (tl tb : List ByteArray) (xs l bk : List Int) (ht : tb.length ≤ 1000) (h20 : twS tb = true) : ∀ x : Nat × Int, (x.1 ≤ tb.length ∧ 0 ≤ x.2 ∧ x.2 ≤ 20 * x.1) →
    SimC Tryd.prog 2 rd (.loop b1Lp) ((b1T nn).at [.b r, .i d, .i e, .i w, .i f, .b o, .i g, .i x.2, .i c, .i (tb.length : Int), .i (x.1 : Int), .ss tl, .l xs, .l l, .ss tb, .l bk]) (.exit 0) ((b1X nn).at [.b r, .i d, .i e, .i w, .i f, .b o, .i g, .i (x.2 + sumQ (tb.drop x.1)), .i c, .ss tl, .l xs, .l l, .ss tb, .l bk]) := by
  refine loop_of_rounds (C := orcB bN emptyTab plainL) (L := b2L cntQ nn) (N := 100) (me := 10) (T := b1T nn) (T' := b1X nn) (orcB_ok emptyTab_ok plainL_ok) mixed (b2L_ok nn) (by cases nn <;> kernel_rfl) (by cases nn <;> kernel_rfl) (X := Nat × Int)
    (fun x => [.b r, .i d, .i e, .i w, .i f, .b o, .i g, .i x.2, .i c, .i (tb.length : Int), .i (x.1 : Int), .ss tl, .l xs, .l l, .ss tb, .l bk]) (fun x => x.1 ≤ tb.length ∧ 0 ≤ x.2 ∧ x.2 ≤ 20 * x.1) (fun x => tb.length - x.1)
    (fun x => (.exit 0, [.b r, .i d, .i e, .i w, .i f, .b o, .i g, .i (x.2 + sumQ (tb.drop x.1)), .i c, .ss tl, .l xs, .l l, .ss tb, .l bk])) ?_
  rintro ⟨i, m⟩ ⟨hi, hm, hm2⟩
  dsimp only at hi hm hm2 ⊢
  have h := b1_round bN cntQ nn rd r o d e w f g m c (tb.length : Int) (i : Int) tl tb xs l bk
  rcases Nat.lt_or_ge i tb.length with hlt | hge
  · have hs : lenS tb[i] = 20 := of_decide_eq_true (List.all_eq_true.1 h20 _ (List.getElem_mem hlt))
    rw [decide_eq_true (show (i : Int) < (tb.length : Int) by omega), cond_true, atS_at hlt] at h
    unfold b1G at h
    rw [hs, codesB_iff.2 (by intro x hx; simp at hx; rw [hx]), decide_eq_true (show (0 : Int) = 0 ∧ Int.ofNat (bytesI tb[i]).length = Int.ofNat (bytesI tb[i]).length ∧ (bytesI tb[i]).length ≤ 1000 ∧ 0 ≤ m ∧ m ≤ 1000000000 from ⟨rfl, rfl, by rw [bytesI_len]; omega, hm, by omega⟩), wr64 (by omega) (by omega)] at h
    rw [List.drop_eq_getElem_cons hlt]
    simp only [sumQ]
    have hr := cntQ_range (bytesI tb[i])
    rw [bytesI_len, hs] at hr
    exact ⟨_, _, _, h, codes0, .inl ⟨rfl, (i + 1, m + cntQ (bytesI tb[i])), rfl, ⟨by simp only; omega, by simp only; omega, by simp only; omega⟩, by simp only; omega, by simp only; rw [show m + cntQ (bytesI tb[i]) + sumQ (tb.drop (i + 1)) = m + (cntQ (bytesI tb[i]) + sumQ (tb.drop (i + 1))) by omega]⟩⟩
  · rw [decide_eq_false (show ¬ (i : Int) < (tb.length : Int) by omega), cond_false] at h
    refine ⟨_, _, _, h, codes0, .inr ⟨by simp, ?_⟩⟩
    rw [List.drop_eq_nil_of_le (by omega)]
    simp only [sumQ, Int.add_zero]
noncomputable def b1Tree (C : List ByteArray → Bool) (SQ : List ByteArray → Int) (nn : Bool) : List PV → Fin
  | [.b r, .i d, .i e, .i w, .i f, .b o, .i g, .i m, .i c, .i n, .i i, .ss tl, .l xs, .l l, .ss tb, .l bk] => .br (decide (i = 0 ∧ m = 0 ∧ n = Int.ofNat tb.length) && C tb) (.leaf (.exit 0) ((b1X nn).at [.b r, .i d, .i e, .i w, .i f, .b o, .i g, .i (SQ tb), .i c, .ss tl, .l xs, .l l, .ss tb, .l bk])) .no
  | _ => .no
def bkC (tb : List ByteArray) : Bool := decide (tb.length ≤ 1000) && twS tb
noncomputable def b1L (C : List ByteArray → Bool) (SQ : List ByteArray → Int) (nn : Bool) : Loops := sums (fun n => match n with | 9 => some (lsumF 2 (b1T nn) b1Lp (b1Tree C SQ nn)) | _ => none)
theorem b1L_ok (nn : Bool) : loopsOk Tryd.prog (b1L bkC sumQ nn) := by
  intro n g hg
  simp only [b1L, sums] at hg
  split at hg
  · cases hg
    refine lsumF_ok (by cases nn <;> kernel_rfl) (fun rd ps e1 st1 hq => ?_)
    unfold b1Tree at hq
    split at hq
    · rename_i r d e w f o g m c n i tl xs l tb bk
      simp only [Fin.pick] at hq
      cases hc : (decide (i = 0 ∧ m = 0 ∧ n = Int.ofNat tb.length) && bkC tb) with
      | false => rw [hc] at hq; cases hq
      | true =>
        rw [hc, cond_true] at hq
        simp only [bkC, Bool.and_eq_true, decide_eq_true_eq] at hc
        obtain ⟨⟨rfl, rfl, rfl⟩, h1, h2⟩ := hc
        have h := b1_loop nn rd r o d e w f g c tl tb xs l bk h1 h2 (0, 0) ⟨by simp, by simp, by simp⟩
        dsimp only at h
        rw [List.drop_zero, Int.zero_add] at h
        cases hq
        exact h
    · cases hq
  · cases hg
end Go.Proofs.YtnhilofmafjdpaaDoor
