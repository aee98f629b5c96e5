/- Texts merged: Sm3, Sm4, Sm5. -/
import Derived.Test.YtnhilofmafjdpaaDoorSm2
/- Chapter 9: the law AuctionSmall: tables: the loops over the places and the lines. -/
namespace Go.Proofs.YtnhilofmafjdpaaDoor
open Go Go.Eng
abbrev C5T := Int → Int → Int → Int → ByteArray → List ByteArray → List ByteArray → List ByteArray → Bool
noncomputable def c5 : C5T := fun i a k c ln tl ot mk => decide (i = 0 ∧ 0 ≤ a ∧ a ≤ (lenS ln : Int) ∧ lenS ln ≤ 1000 ∧ 0 ≤ k ∧ k < (ot.length : Int) ∧ ot.length ≤ 1000 ∧ c = 8) && (tinyL mk && pB (tl = textsL))
noncomputable def m5Tree (C : C5T) : List PV → Fin
  | [.i ii, .s s, .i d, .i k, .s ln, .i a, .i c13, .i c14, .i c58, .i c59, .i c66, .i c67, .i c74, .i i, .ss tl, .s a0, .s a1, .s a2, .s a3, .s a4, .s a5, .ss gd, .ss ot, .s b0, .s b1, .s b2, .s b3, .s b4, .s b5, .s b6, .s b7] => .br (C i a k c74 ln tl ot [b0, b1, b2, b3, b4, b5, b6, b7]) (.leaf (.exit 8) (m4T.at [.i ii, .s s, .i d, .i k, .s ln, .i c13, .i c14, .i c58, .i c59, .i c66, .i c67, .ss tl, .s a0, .s a1, .s a2, .s a3, .s a4, .s a5, .ss gd])) .no
  | _ => .no
noncomputable def m5L (C : C5T) : Loops := sums (fun n => match n with | 18 => some (lsumF 1 m5T m5Lp (m5Tree C)) | _ => none)
theorem m5L_ok : loopsOk Tryd.prog (m5L c5) := by
  intro n g hg
  simp only [m5L, sums] at hg
  split at hg
  · cases hg
    refine lsumF_ok (by kernel_rfl) (fun rd ps e1 st1 hq => ?_)
    unfold m5Tree at hq
    split at hq
    · rename_i ii s d k ln a c13 c14 c58 c59 c66 c67 c74 i tl a0 a1 a2 a3 a4 a5 gd ot b0 b1 b2 b3 b4 b5 b6 b7
      simp only [Fin.pick] at hq
      cases hc : c5 i a k c74 ln tl ot [b0, b1, b2, b3, b4, b5, b6, b7] with
      | false => rw [hc] at hq; cases hq
      | true =>
        rw [hc, cond_true] at hq
        simp only [c5, Bool.and_eq_true, decide_eq_true_eq, pB_iff] at hc
        obtain ⟨⟨rfl, h1, h2, h3, h4, h5, h6, rfl⟩, h8, rfl⟩ := hc
        have h := m5_loop rd ii d k a c13 c14 c58 c59 c66 c67 s ln a0 a1 a2 a3 a4 a5 b0 b1 b2 b3 b4 b5 b6 b7 gd ot.length h1 h2 h3 h8 h4 h5 h6 (0, ot) ⟨Nat.zero_le _, rfl⟩
        cases hq
        exact h
    · cases hq
  · cases hg
end Go.Proofs.YtnhilofmafjdpaaDoor

/- Chapter 9: the law AuctionSmall: tables: the loop over the places of a line. -/
namespace Go.Proofs.YtnhilofmafjdpaaDoor
open Go Go.Eng
def mkL : List ByteArray := [⟨#[]⟩, ⟨#[32]⟩, ⟨#[45]⟩, ⟨#[63]⟩, ⟨#[80]⟩, ⟨#[88]⟩, ⟨#[49]⟩, ⟨#[9]⟩]
theorem m4_round (X : SX) (C : C5T) (rd : Option Nat) (ii d k c13 c14 c58 c59 c66 c67 : Int) (s ln a0 a1 a2 a3 a4 a5 : ByteArray) (tl gd : List ByteArray) : roundT Tryd.prog (orcSm X plainL) (m5L C) 100 1 rd 31 m4Lp m4T m3T [.i ii, .s s, .i d, .i k, .s ln, .i c13, .i c14, .i c58, .i c59, .i c66, .i c67, .ss tl, .s a0, .s a1, .s a2, .s a3, .s a4, .s a5, .ss gd] =
    bif decide (c67 < c66) then bif decide (gd.length * 17 ≤ 70368744177664) then cond (codesB [(m5Lp, m5Lp)]) (bif C 0 c67 k 8 ln tl gd mkL then
      some (.normal, [.i ii, .s s, .i d, .i k, .s ln, .i c13, .i c14, .i c58, .i c59, .i c66, .i (wr .i64 (c67 + 1)), .ss tl, .s a0, .s a1, .s a2, .s a3, .s a4, .s a5, .ss gd], []) else none) none else none
    else some (.exit 6, [.i ii, .s s, .i d, .i c13, .i c14, .i c58, .i c59, .ss tl, .s a0, .s a1, .s a2, .s a3, .s a4, .s a5, .ss gd], []) := by kernel_rfl
theorem mkL_tiny : tinyL mkL = true := by decide
theorem m4_loop (rd : Option Nat) (ii d k c13 c14 c58 c59 : Int) (s ln a0 a1 a2 a3 a4 a5 : ByteArray) (gd : List ByteArray) (hl : lenS ln ≤ 1000) (hk : 0 ≤ k) (hk2 : k < (gd.length : Int)) (hg : gd.length ≤ 1000) : ∀ j : Nat, j ≤ lenS ln + 1 →
    SimC Tryd.prog 1 rd (.loop m4Lp) (m4T.at [.i ii, .s s, .i d, .i k, .s ln, .i c13, .i c14, .i c58, .i c59, .i ((lenS ln + 1 : Nat) : Int), .i (j : Int), .ss textsL, .s a0, .s a1, .s a2, .s a3, .s a4, .s a5, .ss gd]) (.exit 6) (m3T.at [.i ii, .s s, .i d, .i c13, .i c14, .i c58, .i c59, .ss textsL, .s a0, .s a1, .s a2, .s a3, .s a4, .s a5, .ss gd]) := by
  refine loop_of_rounds (C := orcSm sX plainL) (L := m5L c5) (N := 100) (me := 31) (T := m4T) (T' := m3T) (orcSm_ok plainL_ok) mixed m5L_ok (by kernel_rfl) (by kernel_rfl) (X := Nat)
    (fun j => [.i ii, .s s, .i d, .i k, .s ln, .i c13, .i c14, .i c58, .i c59, .i ((lenS ln + 1 : Nat) : Int), .i (j : Int), .ss textsL, .s a0, .s a1, .s a2, .s a3, .s a4, .s a5, .ss gd]) (fun j => j ≤ lenS ln + 1) (fun j => lenS ln + 1 - j) (fun _ => (.exit 6, [.i ii, .s s, .i d, .i c13, .i c14, .i c58, .i c59, .ss textsL, .s a0, .s a1, .s a2, .s a3, .s a4, .s a5, .ss gd])) ?_
  intro j hj
  have h := m4_round sX c5 rd ii d k c13 c14 c58 c59 ((lenS ln + 1 : Nat) : Int) (j : Int) s ln a0 a1 a2 a3 a4 a5 textsL gd
  rcases Nat.lt_or_ge j (lenS ln + 1) with hlt | hge
  · have hC : c5 0 (j : Int) k 8 ln textsL gd mkL = true := by
      unfold c5
      rw [decide_eq_true (show (0 : Int) = 0 ∧ 0 ≤ (j : Int) ∧ (j : Int) ≤ (lenS ln : Int) ∧ lenS ln ≤ 1000 ∧ 0 ≤ k ∧ k < (gd.length : Int) ∧ gd.length ≤ 1000 ∧ (8 : Int) = 8 from ⟨rfl, by omega, by omega, hl, hk, hk2, hg, rfl⟩), mkL_tiny, pB_iff.2 rfl]; rfl
    rw [decide_eq_true (show (j : Int) < ((lenS ln + 1 : Nat) : Int) by omega), cond_true, decide_eq_true (show gd.length * 17 ≤ 70368744177664 by omega), lpCd, hC, wr64 (n := (j : Int) + 1) (by omega) (by omega)] at h
    exact ⟨_, _, _, h, codes0, .inl ⟨rfl, j + 1, rfl, by omega, by omega, rfl⟩⟩
  · rw [decide_eq_false (show ¬ (j : Int) < ((lenS ln + 1 : Nat) : Int) by omega), cond_false] at h
    exact ⟨_, _, _, h, codes0, .inr ⟨by simp, rfl⟩⟩
abbrev C4T := Int → Int → Int → ByteArray → List ByteArray → List ByteArray → Bool
noncomputable def c4B : C4T := fun k m j ln tl gd => decide (j = 0 ∧ m = ((lenS ln + 1 : Nat) : Int) ∧ lenS ln ≤ 1000 ∧ 0 ≤ k ∧ k < (gd.length : Int) ∧ gd.length ≤ 1000) && pB (tl = textsL)
noncomputable def m4Tree (C : C4T) : List PV → Fin
  | [.i ii, .s s, .i d, .i k, .s ln, .i c13, .i c14, .i c58, .i c59, .i c66, .i c67, .ss tl, .s a0, .s a1, .s a2, .s a3, .s a4, .s a5, .ss gd] => .br (C k c66 c67 ln tl gd) (.leaf (.exit 6) (m3T.at [.i ii, .s s, .i d, .i c13, .i c14, .i c58, .i c59, .ss tl, .s a0, .s a1, .s a2, .s a3, .s a4, .s a5, .ss gd])) .no
  | _ => .no
noncomputable def m4L (C : C4T) : Loops := sums (fun n => match n with | 14 => some (lsumF 1 m4T m4Lp (m4Tree C)) | _ => none)
theorem m4L_ok : loopsOk Tryd.prog (m4L c4B) := by
  intro n g hg
  simp only [m4L, sums] at hg
  split at hg
  · cases hg
    refine lsumF_ok (by kernel_rfl) (fun rd ps e1 st1 hq => ?_)
    unfold m4Tree at hq
    split at hq
    · rename_i ii s d k ln c13 c14 c58 c59 c66 c67 tl a0 a1 a2 a3 a4 a5 gd
      simp only [Fin.pick] at hq
      cases hc : c4B k c66 c67 ln tl gd with
      | false => rw [hc] at hq; cases hq
      | true =>
        rw [hc, cond_true] at hq
        simp only [c4B, Bool.and_eq_true, decide_eq_true_eq, pB_iff] at hc
        obtain ⟨⟨rfl, rfl, h1, h2, h3, h4⟩, rfl⟩ := hc
        cases hq
        exact m4_loop rd ii d k c13 c14 c58 c59 s ln a0 a1 a2 a3 a4 a5 gd h1 h2 h3 h4 0 (Nat.zero_le _)
    · cases hq
  · cases hg
theorem m3_round (X : SX) (C : C4T) (rd : Option Nat) (ii d c13 c14 c58 c59 : Int) (s a0 a1 a2 a3 a4 a5 : ByteArray) (tl gd : List ByteArray) : roundT Tryd.prog (orcSm X plainL) (m4L C) 100 1 rd 31 m3Lp m3T m3X [.i ii, .s s, .i d, .i c13, .i c14, .i c58, .i c59, .ss tl, .s a0, .s a1, .s a2, .s a3, .s a4, .s a5, .ss gd] =
    bif decide (c59 < c58) then atS gd c59 (fun ln => cond (codesB [(m4Lp, m4Lp)]) (bif C c59 (wr .i64 (Int.ofNat (lenS ln) + 1)) 0 ln tl gd then
      some (.normal, [.i ii, .s s, .i d, .i c13, .i c14, .i c58, .i (wr .i64 (c59 + 1)), .ss tl, .s a0, .s a1, .s a2, .s a3, .s a4, .s a5, .ss gd], []) else none) none)
    else some (.exit 4, [.i ii, .s s, .i d, .i c13, .i c14, .ss tl, .s a0, .s a1, .s a2, .s a3, .s a4, .s a5], []) := by kernel_rfl
end Go.Proofs.YtnhilofmafjdpaaDoor

/- Chapter 9: the law AuctionSmall: tables: the loop over the lines. -/
namespace Go.Proofs.YtnhilofmafjdpaaDoor
open Go Go.Eng
def shL (gd : List ByteArray) : Bool := gd.all fun x => decide (lenS x ≤ 1000)
theorem m3_loop (rd : Option Nat) (ii d c13 c14 : Int) (s a0 a1 a2 a3 a4 a5 : ByteArray) (gd : List ByteArray) (hs : shL gd = true) (hg : gd.length ≤ 1000) : ∀ j : Nat, j ≤ gd.length →
    SimC Tryd.prog 1 rd (.loop m3Lp) (m3T.at [.i ii, .s s, .i d, .i c13, .i c14, .i (gd.length : Int), .i (j : Int), .ss textsL, .s a0, .s a1, .s a2, .s a3, .s a4, .s a5, .ss gd]) (.exit 4) (m3X.at [.i ii, .s s, .i d, .i c13, .i c14, .ss textsL, .s a0, .s a1, .s a2, .s a3, .s a4, .s a5]) := by
  refine loop_of_rounds (C := orcSm sX plainL) (L := m4L c4B) (N := 100) (me := 31) (T := m3T) (T' := m3X) (orcSm_ok plainL_ok) mixed m4L_ok (by kernel_rfl) (by kernel_rfl) (X := Nat)
    (fun j => [.i ii, .s s, .i d, .i c13, .i c14, .i (gd.length : Int), .i (j : Int), .ss textsL, .s a0, .s a1, .s a2, .s a3, .s a4, .s a5, .ss gd]) (fun j => j ≤ gd.length) (fun j => gd.length - j) (fun _ => (.exit 4, [.i ii, .s s, .i d, .i c13, .i c14, .ss textsL, .s a0, .s a1, .s a2, .s a3, .s a4, .s a5])) ?_
  intro j hj
  have h := m3_round sX c4B rd ii d c13 c14 (gd.length : Int) (j : Int) s a0 a1 a2 a3 a4 a5 textsL gd
  rcases Nat.lt_or_ge j gd.length with hlt | hge
  · have hx : lenS gd[j] ≤ 1000 := of_decide_eq_true (List.all_eq_true.1 hs _ (List.getElem_mem hlt))
    have hof : Int.ofNat (lenS gd[j]) = (lenS gd[j] : Int) := rfl
    have hC : c4B (j : Int) (wr .i64 (Int.ofNat (lenS gd[j]) + 1)) 0 gd[j] textsL gd = true := by
      unfold c4B
      rw [hof, wr64 (n := (lenS gd[j] : Int) + 1) (by omega) (by omega), decide_eq_true (show (0 : Int) = 0 ∧ (lenS gd[j] : Int) + 1 = ((lenS gd[j] + 1 : Nat) : Int) ∧ lenS gd[j] ≤ 1000 ∧ 0 ≤ (j : Int) ∧ (j : Int) < (gd.length : Int) ∧ gd.length ≤ 1000 from ⟨rfl, by omega, hx, by omega, by omega, hg⟩), pB_iff.2 rfl]; rfl
    rw [decide_eq_true (show (j : Int) < (gd.length : Int) by omega), cond_true, atS_at hlt, lpCd, hC, wr64 (n := (j : Int) + 1) (by omega) (by omega)] at h
    exact ⟨_, _, _, h, codes0, .inl ⟨rfl, j + 1, rfl, by omega, by omega, rfl⟩⟩
  · rw [decide_eq_false (show ¬ (j : Int) < (gd.length : Int) by omega), cond_false] at h
    exact ⟨_, _, _, h, codes0, .inr ⟨by simp, rfl⟩⟩
abbrev C3T := Int → Int → List ByteArray → List ByteArray → Bool
noncomputable def c3B : C3T := fun n j tl gd => decide (j = 0 ∧ n = Int.ofNat gd.length ∧ gd.length ≤ 1000) && (shL gd && pB (tl = textsL))
noncomputable def m3Tree (C : C3T) : List PV → Fin
  | [.i ii, .s s, .i d, .i c13, .i c14, .i c58, .i c59, .ss tl, .s a0, .s a1, .s a2, .s a3, .s a4, .s a5, .ss gd] => .br (C c58 c59 tl gd) (.leaf (.exit 4) (m3X.at [.i ii, .s s, .i d, .i c13, .i c14, .ss tl, .s a0, .s a1, .s a2, .s a3, .s a4, .s a5])) .no
  | _ => .no
noncomputable def m3L (C : C3T) : Loops := sums (fun n => match n with | 11 => some (lsumF 1 m3T m3Lp (m3Tree C)) | _ => none)
theorem m3L_ok : loopsOk Tryd.prog (m3L c3B) := by
  intro n g hg
  simp only [m3L, sums] at hg
  split at hg
  · cases hg
    refine lsumF_ok (by kernel_rfl) (fun rd ps e1 st1 hq => ?_)
    unfold m3Tree at hq
    split at hq
    · rename_i ii s d c13 c14 c58 c59 tl a0 a1 a2 a3 a4 a5 gd
      simp only [Fin.pick] at hq
      cases hc : c3B c58 c59 tl gd with
      | false => rw [hc] at hq; cases hq
      | true =>
        rw [hc, cond_true] at hq
        simp only [c3B, Bool.and_eq_true, decide_eq_true_eq, pB_iff] at hc
        obtain ⟨⟨rfl, rfl, h1⟩, h2, rfl⟩ := hc
        cases hq
        exact m3_loop rd ii d c13 c14 s a0 a1 a2 a3 a4 a5 gd h2 h1 0 (Nat.zero_le _)
    · cases hq
  · cases hg
end Go.Proofs.YtnhilofmafjdpaaDoor
