/- Chapter 9: the law AuctionBack: its loops. -/
import Derived.Test.YtnhilofmafjdpaaDoorRd5
import Derived.Test.YtnhilofmafjdpaaDoorKit3
namespace Go.Proofs.YtnhilofmafjdpaaDoor
open Go Go.Eng
structure BN where
  VD : List ByteArray → Int
  VE : List ByteArray → Int
  VL : List ByteArray → List Int
  K : NK
def bN : BN := ⟨rvD, rvE, rvL, nK⟩
noncomputable def gRead9 (B : BN) : List V → List Blk → Option (Bool × V × List Blk)
  | [.gs 1], [.glob 0 (.strs l), .rs _ 1 (.strs tb)] => some (pB (l = textsL), .tuple [.int .u8 (B.VD tb), .gs 2, .int .i64 (B.VE tb)], [.grow false 5 1 (.ints .u8 (B.VL tb))])
  | _, _ => none
noncomputable def hTabB (B : BN) : HTab := addH 29 (gRead9 B) (hTabK B.K)
def domB : FuncId → Bool := fun f => Nat.beq f 29 || domK f
def glB : FuncId → List Nat := fun f => bif Nat.beq f 29 || (Nat.beq f 20 || Nat.beq f 13) then [0] else []
def nrR : FuncId → Option Row := fun f => bif Nat.beq f 34 || Nat.beq f 29 then some (.strs []) else some (.ints .u8 [])
theorem hTabB_ok : HTabOk Tryd.prog (hTabB bN) := by
  refine addH_ok ?_ hTabK_ok
  intro args h c v nb hq hc
  unfold gRead9 at hq
  split at hq
  · cases hq
    rw [pB_iff] at hc
    subst hc
    exact ⟨.of Tryd.func29 (by kernel_rfl), read29_fn _ _⟩
  · cases hq
noncomputable abbrev orcB (B : BN) (T : PTab) (LL : FuncId → Loops) : Oracle := inl Tryd.prog ftab T LL 100 never domB (orElse isCl (hOrcP nrR (hTabB B)) (hOrcN glB nrR (hTabB B))) 20
theorem orcB_ok {T : PTab} (hT : PTabOk Tryd.prog T) {LL : FuncId → Loops} (hL : ∀ f, loopsOk Tryd.prog (LL f)) : OracleOk Tryd.prog (orcB bN T LL) := inl_ok (orElse_ok (hOrcP_ok hTabB_ok) (hOrcN_ok hTabB_ok)) ftab_ok hT hL mixed 20
noncomputable def b1Lp : Code := loopOf 9 Tryd.f10
noncomputable def b2Lp : Code := loopOf 14 Tryd.f10
def b1T (nn : Bool) : Tm := ⟨mkS [(6, .bool), (7, .int .u8), (8, .gs 2), (9, .gs 3), (10, .int .i64), (11, .int .u8), (12, .gs 4), (13, .int .i64), (14, .bool), (15, .int .i64), (16, .int .i64), (17, .int .i64), (54, .gs 3), (55, .int .i64), (56, .int .i64)] 0 114, [.glob 0 strsT, .rs nn 1 u8s, .grow false 5 1 u8s, .grow false 9 1 strsT, .grow false 5 1 u8s], []⟩
def b1X (nn : Bool) : Tm := ⟨mkS [(6, .bool), (7, .int .u8), (8, .gs 2), (9, .gs 3), (10, .int .i64), (11, .int .u8), (12, .gs 4), (13, .int .i64), (14, .bool), (15, .int .i64), (16, .int .i64), (17, .int .i64)] 0 114, [.glob 0 strsT, .rs nn 1 u8s, .grow false 5 1 u8s, .grow false 9 1 strsT, .grow false 5 1 u8s], []⟩
def b2T (nn : Bool) : Tm := ⟨mkS [(6, .bool), (7, .int .u8), (8, .gs 2), (9, .gs 3), (10, .int .i64), (11, .int .u8), (12, .gs 4), (13, .int .i64), (14, .bool), (15, .int .i64), (16, .int .i64), (17, .int .i64), (54, .gs 3), (55, .int .i64), (56, .int .i64), (64, .gs 5), (65, .int .i64), (66, .int .i64)] 0 114, [.glob 0 strsT, .rs nn 1 u8s, .grow false 5 1 u8s, .grow false 9 1 strsT, .grow false 5 1 u8s, .grow true 5 1 u8s], []⟩
theorem b2_round (B : BN) (nn : Bool) (rd : Option Nat) (r o : Bool) (d e w f g m c n i k j : Int) (tl tb : List ByteArray) (xs l bk bs : List Int) : roundT Tryd.prog (orcB B emptyTab plainL) noLoops 100 2 rd 10 b2Lp (b2T nn) (b1T nn) [.b r, .i d, .i e, .i w, .i f, .b o, .i g, .i m, .i c, .i n, .i i, .i k, .i j, .ss tl, .l xs, .l l, .ss tb, .l bk, .l bs] =
    bif decide (j < k) then atU bs j (fun x => bif decide (x = 63) then some (.normal, [.b r, .i d, .i e, .i w, .i f, .b o, .i g, .i (wr .i64 (m + 1)), .i c, .i n, .i i, .i k, .i (wr .i64 (j + 1)), .ss tl, .l xs, .l l, .ss tb, .l bk, .l bs], []) else
      some (.normal, [.b r, .i d, .i e, .i w, .i f, .b o, .i g, .i m, .i c, .i n, .i i, .i k, .i (wr .i64 (j + 1)), .ss tl, .l xs, .l l, .ss tb, .l bk, .l bs], [])) else some (.exit 2, [.b r, .i d, .i e, .i w, .i f, .b o, .i g, .i m, .i c, .i n, .i i, .ss tl, .l xs, .l l, .ss tb, .l bk], []) := by cases nn <;> kernel_rfl
def cntQ : List Int → Int
  | [] => 0
  | x :: r => (bif decide (x = 63) then 1 else 0) + cntQ r
theorem cntQ_range : ∀ l : List Int, 0 ≤ cntQ l ∧ cntQ l ≤ l.length
  | [] => by simp [cntQ]
  | x :: r => by
    have := cntQ_range r
    simp only [cntQ, List.length_cons]
    cases decide (x = 63) <;> simp only [cond_true, cond_false] <;> omega
theorem b2_loop (nn : Bool) (rd : Option Nat) (r o : Bool) (d e w f g c n i : Int) (tl tb : List ByteArray) (xs l bk bs : List Int) (hb : bs.length ≤ 1000) : ∀ x : Nat × Int, (x.1 ≤ bs.length ∧ 0 ≤ x.2 ∧ x.2 ≤ 1000000000 + x.1) →
    SimC Tryd.prog 2 rd (.loop b2Lp) ((b2T nn).at [.b r, .i d, .i e, .i w, .i f, .b o, .i g, .i x.2, .i c, .i n, .i i, .i (bs.length : Int), .i (x.1 : Int), .ss tl, .l xs, .l l, .ss tb, .l bk, .l bs]) (.exit 2) ((b1T nn).at [.b r, .i d, .i e, .i w, .i f, .b o, .i g, .i (x.2 + cntQ (bs.drop x.1)), .i c, .i n, .i i, .ss tl, .l xs, .l l, .ss tb, .l bk]) := by
  refine loop_of_rounds (C := orcB bN emptyTab plainL) (L := noLoops) (N := 100) (me := 10) (T := b2T nn) (T' := b1T nn) (orcB_ok emptyTab_ok plainL_ok) mixed noLoops_ok (by cases nn <;> kernel_rfl) (by cases nn <;> kernel_rfl) (X := Nat × Int)
    (fun x => [.b r, .i d, .i e, .i w, .i f, .b o, .i g, .i x.2, .i c, .i n, .i i, .i (bs.length : Int), .i (x.1 : Int), .ss tl, .l xs, .l l, .ss tb, .l bk, .l bs]) (fun x => x.1 ≤ bs.length ∧ 0 ≤ x.2 ∧ x.2 ≤ 1000000000 + x.1) (fun x => bs.length - x.1)
    (fun x => (.exit 2, [.b r, .i d, .i e, .i w, .i f, .b o, .i g, .i (x.2 + cntQ (bs.drop x.1)), .i c, .i n, .i i, .ss tl, .l xs, .l l, .ss tb, .l bk])) ?_
  rintro ⟨j, m⟩ ⟨hj, hm, hm2⟩
  dsimp only at hj hm hm2 ⊢
  have h := b2_round bN nn rd r o d e w f g m c n i (bs.length : Int) (j : Int) tl tb xs l bk bs
  rcases Nat.lt_or_ge j bs.length with hlt | hge
  · rw [decide_eq_true (show (j : Int) < (bs.length : Int) by omega), cond_true, atU_at hlt, wr64 (n := m + 1) (by omega) (by omega), wr64 (n := (j : Int) + 1) (by omega) (by omega)] at h
    rw [List.drop_eq_getElem_cons hlt]
    simp only [cntQ]
    cases hx : decide (bs[j] = 63) with
    | true =>
      rw [hx] at h
      exact ⟨_, _, _, h, codes0, .inl ⟨rfl, (j + 1, m + 1), rfl, ⟨by simp only; omega, by simp only; omega, by simp only; omega⟩, by simp only; omega, by simp only [cond_true]; rw [show m + 1 + cntQ (bs.drop (j + 1)) = m + (1 + cntQ (bs.drop (j + 1))) by omega]⟩⟩
    | false =>
      rw [hx] at h
      exact ⟨_, _, _, h, codes0, .inl ⟨rfl, (j + 1, m), rfl, ⟨by simp only; omega, by simp only; omega, by simp only; omega⟩, by simp only; omega, by simp only [cond_false]; rw [show m + (0 + cntQ (bs.drop (j + 1))) = m + cntQ (bs.drop (j + 1)) by omega]⟩⟩
  · rw [decide_eq_false (show ¬ (j : Int) < (bs.length : Int) by omega), cond_false] at h
    refine ⟨_, _, _, h, codes0, .inr ⟨by simp, ?_⟩⟩
    rw [List.drop_eq_nil_of_le (by omega)]
    simp only [cntQ, Int.add_zero]
noncomputable def b2Tree (CQ : List Int → Int) (nn : Bool) : List PV → Fin
  | [.b r, .i d, .i e, .i w, .i f, .b o, .i g, .i m, .i c, .i n, .i i, .i k, .i j, .ss tl, .l xs, .l l, .ss tb, .l bk, .l bs] => .br (decide (j = 0 ∧ k = Int.ofNat bs.length ∧ bs.length ≤ 1000 ∧ 0 ≤ m ∧ m ≤ 1000000000)) (.leaf (.exit 2) ((b1T nn).at [.b r, .i d, .i e, .i w, .i f, .b o, .i g, .i (m + CQ bs), .i c, .i n, .i i, .ss tl, .l xs, .l l, .ss tb, .l bk])) .no
  | _ => .no
noncomputable def b2L (CQ : List Int → Int) (nn : Bool) : Loops := sums (fun n => match n with | 14 => some (lsumF 2 (b2T nn) b2Lp (b2Tree CQ nn)) | _ => none)
theorem b2L_ok (nn : Bool) : loopsOk Tryd.prog (b2L cntQ nn) := by
  intro n g hg
  simp only [b2L, sums] at hg
  split at hg
  · cases hg
    refine lsumF_ok (by cases nn <;> kernel_rfl) (fun rd ps e1 st1 hq => ?_)
    unfold b2Tree at hq
    split at hq
    · rename_i r d e w f o g m c n i k j tl xs l tb bk bs
      simp only [Fin.pick] at hq
      cases hc : decide (j = 0 ∧ k = Int.ofNat bs.length ∧ bs.length ≤ 1000 ∧ 0 ≤ m ∧ m ≤ 1000000000) with
      | false => rw [hc] at hq; cases hq
      | true =>
        rw [hc, cond_true] at hq
        simp only [decide_eq_true_eq] at hc
        obtain ⟨rfl, rfl, h1, h2, h3⟩ := hc
        have h := b2_loop nn rd r o d e w f g c n i tl tb xs l bk bs h1 (0, m) ⟨by simp, h2, by simp only; omega⟩
        dsimp only at h
        rw [List.drop_zero] at h
        cases hq
        exact h
    · cases hq
  · cases hg
end Go.Proofs.YtnhilofmafjdpaaDoor
