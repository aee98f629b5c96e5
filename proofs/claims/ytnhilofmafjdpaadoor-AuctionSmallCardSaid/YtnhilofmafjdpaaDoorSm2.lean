/- Chapter 9: the law AuctionSmall: tables: the loop over the eight strings. -/
import Derived.Test.YtnhilofmafjdpaaDoorTel2
namespace Go.Proofs.YtnhilofmafjdpaaDoor
open Go Go.Eng
def mnP (ln : ByteArray) (a : Int) : Int := foldI minI (wr .i64 (a + 1)) [Int.ofNat (lenS ln)]
def sw1 (ln x : ByteArray) (a : Int) : ByteArray := ⟨((catS (extS ln (Int.toNat 0) a.toNat) x).data.toList ++ (extS ln (mnP ln a).toNat (Int.ofNat (lenS ln)).toNat).data.toList).toArray⟩
def sw2 (ln x : ByteArray) (a : Int) : ByteArray := ⟨((catS (extS ln (Int.toNat 0) a.toNat) x).data.toList ++ (extS ln a.toNat (Int.ofNat (lenS ln)).toNat).data.toList).toArray⟩
noncomputable def m5R (ii d k a c13 c14 c58 c59 c66 c67 c74 i : Int) (s ln : ByteArray) (a0 a1 a2 a3 a4 a5 b0 b1 b2 b3 b4 b5 b6 b7 : ByteArray) (tl gd ot : List ByteArray) : RT := some (.normal, [.i ii, .s s, .i d, .i k, .s ln, .i a, .i c13, .i c14, .i c58, .i c59, .i c66, .i c67, .i c74, .i (wr .i64 (i + 1)), .ss tl, .s a0, .s a1, .s a2, .s a3, .s a4, .s a5, .ss gd, .ss ot, .s b0, .s b1, .s b2, .s b3, .s b4, .s b5, .s b6, .s b7], [])
noncomputable def m5B (X : SX) (ii d k a c13 c14 c58 c59 c66 c67 c74 i : Int) (s ln : ByteArray) (a0 a1 a2 a3 a4 a5 b0 b1 b2 b3 b4 b5 b6 b7 : ByteArray) (tl gd ot : List ByteArray) (x : ByteArray) : RT :=
  bif decide (0 ≤ (0 : Int) ∧ 0 ≤ a ∧ a ≤ Int.ofNat (lenS ln)) then bif decide ((List.take (a.toNat - 0) (List.drop 0 ln.data.toList)).length + x.data.toList.length ≤ 9223372036854775807) then
  bif decide (0 ≤ a ∧ a ≤ Int.ofNat (lenS ln) ∧ Int.ofNat (lenS ln) ≤ Int.ofNat (lenS ln)) then bif decide ((List.take (a.toNat - 0) (List.drop 0 ln.data.toList) ++ x.data.toList).length + (List.take ((Int.ofNat (lenS ln)).toNat - a.toNat) (List.drop a.toNat ln.data.toList)).length ≤ 9223372036854775807) then
  bif decide (0 ≤ k ∧ k < Int.ofNat ot.length) then bif decide (k.toNat < ot.length) then bif decide ((wr .i64 (a + ii)).tmod 3 = 0) then bif pB (tl = textsL) && X.CT (ot.set k.toNat (sw2 ln x a)) then m5R ii d k a c13 c14 c58 c59 c66 c67 c74 i s ln a0 a1 a2 a3 a4 a5 b0 b1 b2 b3 b4 b5 b6 b7 tl gd (ot.set k.toNat (sw2 ln x a)) else none else
  m5R ii d k a c13 c14 c58 c59 c66 c67 c74 i s ln a0 a1 a2 a3 a4 a5 b0 b1 b2 b3 b4 b5 b6 b7 tl gd (ot.set k.toNat (sw2 ln x a)) else none else none else none else none else none else none
noncomputable def m5A (X : SX) (ii d k a c13 c14 c58 c59 c66 c67 c74 i : Int) (s ln : ByteArray) (a0 a1 a2 a3 a4 a5 b0 b1 b2 b3 b4 b5 b6 b7 : ByteArray) (tl gd ot : List ByteArray) (x : ByteArray) : RT :=
  bif decide (0 ≤ (0 : Int) ∧ 0 ≤ a ∧ a ≤ Int.ofNat (lenS ln)) then bif decide ((List.take (a.toNat - 0) (List.drop 0 ln.data.toList)).length + x.data.toList.length ≤ 9223372036854775807) then
  bif decide (0 ≤ mnP ln a ∧ mnP ln a ≤ Int.ofNat (lenS ln) ∧ Int.ofNat (lenS ln) ≤ Int.ofNat (lenS ln)) then bif decide ((List.take (a.toNat - 0) (List.drop 0 ln.data.toList) ++ x.data.toList).length + (List.take ((Int.ofNat (lenS ln)).toNat - (mnP ln a).toNat) (List.drop (mnP ln a).toNat ln.data.toList)).length ≤ 9223372036854775807) then
  bif decide (0 ≤ k ∧ k < Int.ofNat ot.length) then bif decide (k.toNat < ot.length) then bif pB (tl = textsL) && X.CT (ot.set k.toNat (sw1 ln x a)) then
  m5B X ii d k a c13 c14 c58 c59 c66 c67 c74 i s ln a0 a1 a2 a3 a4 a5 b0 b1 b2 b3 b4 b5 b6 b7 tl gd (ot.set k.toNat (sw1 ln x a)) x else none else none else none else none else none else none else none
def tinyL (mk : List ByteArray) : Bool := mk.all fun x => decide (lenS x ≤ 10)
def c8 (b0 b1 b2 b3 b4 b5 b6 b7 : ByteArray) : Nat → ByteArray
  | 0 => b0
  | 1 => b1
  | 2 => b2
  | 3 => b3
  | 4 => b4
  | 5 => b5
  | 6 => b6
  | _ => b7
theorem m5_round (X : SX) (rd : Option Nat) (ii d k a c13 c14 c58 c59 c66 c67 : Int) (s ln : ByteArray) (a0 a1 a2 a3 a4 a5 b0 b1 b2 b3 b4 b5 b6 b7 : ByteArray) (tl gd ot : List ByteArray) : ∀ i : Nat, i < 8 → roundT Tryd.prog (orcSm X plainL) noLoops 100 1 rd 31 m5Lp m5T m4T [.i ii, .s s, .i d, .i k, .s ln, .i a, .i c13, .i c14, .i c58, .i c59, .i c66, .i c67, .i 8, .i (i : Int), .ss tl, .s a0, .s a1, .s a2, .s a3, .s a4, .s a5, .ss gd, .ss ot, .s b0, .s b1, .s b2, .s b3, .s b4, .s b5, .s b6, .s b7] =
    m5A X ii d k a c13 c14 c58 c59 c66 c67 8 (i : Int) s ln a0 a1 a2 a3 a4 a5 b0 b1 b2 b3 b4 b5 b6 b7 tl gd ot (c8 b0 b1 b2 b3 b4 b5 b6 b7 i)
  | 0, _ => by kernel_rfl
  | 1, _ => by kernel_rfl
  | 2, _ => by kernel_rfl
  | 3, _ => by kernel_rfl
  | 4, _ => by kernel_rfl
  | 5, _ => by kernel_rfl
  | 6, _ => by kernel_rfl
  | 7, _ => by kernel_rfl
  | _ + 8, h => by omega
theorem m5_end (X : SX) (rd : Option Nat) (ii d k a c13 c14 c58 c59 c66 c67 : Int) (s ln : ByteArray) (a0 a1 a2 a3 a4 a5 b0 b1 b2 b3 b4 b5 b6 b7 : ByteArray) (tl gd ot : List ByteArray) : roundT Tryd.prog (orcSm X plainL) noLoops 100 1 rd 31 m5Lp m5T m4T [.i ii, .s s, .i d, .i k, .s ln, .i a, .i c13, .i c14, .i c58, .i c59, .i c66, .i c67, .i 8, .i ((8 : Nat) : Int), .ss tl, .s a0, .s a1, .s a2, .s a3, .s a4, .s a5, .ss gd, .ss ot, .s b0, .s b1, .s b2, .s b3, .s b4, .s b5, .s b6, .s b7] =
    some (.exit 8, [.i ii, .s s, .i d, .i k, .s ln, .i c13, .i c14, .i c58, .i c59, .i c66, .i c67, .ss tl, .s a0, .s a1, .s a2, .s a3, .s a4, .s a5, .ss gd], []) := by kernel_rfl
theorem c8_at {b0 b1 b2 b3 b4 b5 b6 b7 : ByteArray} (h : tinyL [b0, b1, b2, b3, b4, b5, b6, b7] = true) : ∀ i : Nat, i < 8 → lenS (c8 b0 b1 b2 b3 b4 b5 b6 b7 i) ≤ 10 := by
  unfold tinyL at h
  simp only [List.all_cons, List.all_nil, Bool.and_true, Bool.and_eq_true, decide_eq_true_eq] at h
  obtain ⟨h0, h1, h2, h3, h4, h5, h6, h7⟩ := h
  intro i hi
  match i, hi with
  | 0, _ => exact h0
  | 1, _ => exact h1
  | 2, _ => exact h2
  | 3, _ => exact h3
  | 4, _ => exact h4
  | 5, _ => exact h5
  | 6, _ => exact h6
  | 7, _ => exact h7
  | _ + 8, h => omega
theorem len_takeD (l : List UInt8) (n m : Nat) : (List.take n (List.drop m l)).length ≤ l.length := by simp only [List.length_take, List.length_drop]; omega
theorem mnP_is {ln : ByteArray} {a : Int} (h0 : 0 ≤ a) (h1 : a ≤ (lenS ln : Int)) (hl : lenS ln ≤ 1000) : 0 ≤ mnP ln a ∧ mnP ln a ≤ (lenS ln : Int) := by
  unfold mnP
  simp only [foldI, minI]
  rw [show Int.ofNat (lenS ln) = (lenS ln : Int) from rfl, wr64 (n := a + 1) (by omega) (by omega)]
  cases hc : decide ((lenS ln : Int) < a + 1) with
  | true => simp only [cond_true]; exact ⟨by omega, by omega⟩
  | false => simp only [decide_eq_false_iff_not] at hc; simp only [cond_false]; exact ⟨by omega, by omega⟩
theorem m5A_is {ii d k a c13 c14 c58 c59 c66 c67 c74 i : Int} {s ln : ByteArray} {a0 a1 a2 a3 a4 a5 b0 b1 b2 b3 b4 b5 b6 b7 : ByteArray} {gd ot : List ByteArray} {x : ByteArray} (h0 : 0 ≤ a) (h1 : a ≤ (lenS ln : Int)) (hl : lenS ln ≤ 1000) (hx : lenS x ≤ 10) (hk : 0 ≤ k) (hk2 : k < (ot.length : Int)) (ho : ot.length ≤ 1000) :
    ∃ ot', ot'.length = ot.length ∧ m5A sX ii d k a c13 c14 c58 c59 c66 c67 c74 i s ln a0 a1 a2 a3 a4 a5 b0 b1 b2 b3 b4 b5 b6 b7 textsL gd ot x = m5R ii d k a c13 c14 c58 c59 c66 c67 c74 i s ln a0 a1 a2 a3 a4 a5 b0 b1 b2 b3 b4 b5 b6 b7 textsL gd ot' := by
  obtain ⟨g1, g2⟩ := mnP_is h0 h1 hl
  have e1 : Int.ofNat (lenS ln) = (lenS ln : Int) := rfl
  have hl' : ln.data.toList.length ≤ 1000 := hl
  have hx' : x.data.toList.length ≤ 10 := hx
  have t1 := len_takeD ln.data.toList (a.toNat - 0) 0
  have t2 := len_takeD ln.data.toList ((Int.ofNat (lenS ln)).toNat - (mnP ln a).toNat) (mnP ln a).toNat
  have t3 := len_takeD ln.data.toList ((Int.ofNat (lenS ln)).toNat - a.toNat) a.toNat
  have hB : ∀ o2 : List ByteArray, o2.length = ot.length → m5B sX ii d k a c13 c14 c58 c59 c66 c67 c74 i s ln a0 a1 a2 a3 a4 a5 b0 b1 b2 b3 b4 b5 b6 b7 textsL gd o2 x = m5R ii d k a c13 c14 c58 c59 c66 c67 c74 i s ln a0 a1 a2 a3 a4 a5 b0 b1 b2 b3 b4 b5 b6 b7 textsL gd (o2.set k.toNat (sw2 ln x a)) := by
    intro o2 ho2
    unfold m5B
    rw [decide_eq_true (show 0 ≤ (0 : Int) ∧ 0 ≤ a ∧ a ≤ Int.ofNat (lenS ln) from ⟨by omega, h0, h1⟩), decide_eq_true (show (List.take (a.toNat - 0) (List.drop 0 ln.data.toList)).length + x.data.toList.length ≤ 9223372036854775807 by omega),
      decide_eq_true (show 0 ≤ a ∧ a ≤ Int.ofNat (lenS ln) ∧ Int.ofNat (lenS ln) ≤ Int.ofNat (lenS ln) from ⟨h0, h1, Int.le_refl _⟩), decide_eq_true (show (List.take (a.toNat - 0) (List.drop 0 ln.data.toList) ++ x.data.toList).length + (List.take ((Int.ofNat (lenS ln)).toNat - a.toNat) (List.drop a.toNat ln.data.toList)).length ≤ 9223372036854775807 by rw [List.length_append]; omega),
      decide_eq_true (show 0 ≤ k ∧ k < Int.ofNat o2.length from ⟨hk, by show k < (o2.length : Int); omega⟩), decide_eq_true (show k.toNat < o2.length by omega), pB_iff.2 rfl, show sX.CT (o2.set k.toNat (sw2 ln x a)) = true from decide_eq_true (by rw [List.length_set]; omega)]
    cases decide ((wr .i64 (a + ii)).tmod 3 = 0) <;> rfl
  refine ⟨(ot.set k.toNat (sw1 ln x a)).set k.toNat (sw2 ln x a), by rw [List.length_set, List.length_set], ?_⟩
  rw [← hB _ (by rw [List.length_set])]
  unfold m5A
  rw [decide_eq_true (show 0 ≤ (0 : Int) ∧ 0 ≤ a ∧ a ≤ Int.ofNat (lenS ln) from ⟨by omega, h0, h1⟩), decide_eq_true (show (List.take (a.toNat - 0) (List.drop 0 ln.data.toList)).length + x.data.toList.length ≤ 9223372036854775807 by omega),
    decide_eq_true (show 0 ≤ mnP ln a ∧ mnP ln a ≤ Int.ofNat (lenS ln) ∧ Int.ofNat (lenS ln) ≤ Int.ofNat (lenS ln) from ⟨g1, g2, Int.le_refl _⟩), decide_eq_true (show (List.take (a.toNat - 0) (List.drop 0 ln.data.toList) ++ x.data.toList).length + (List.take ((Int.ofNat (lenS ln)).toNat - (mnP ln a).toNat) (List.drop (mnP ln a).toNat ln.data.toList)).length ≤ 9223372036854775807 by rw [List.length_append]; omega),
    decide_eq_true (show 0 ≤ k ∧ k < Int.ofNat ot.length from ⟨hk, hk2⟩), decide_eq_true (show k.toNat < ot.length by omega), pB_iff.2 rfl, show sX.CT (ot.set k.toNat (sw1 ln x a)) = true from decide_eq_true (by rw [List.length_set]; omega)]
  rfl
theorem m5_loop (rd : Option Nat) (ii d k a c13 c14 c58 c59 c66 c67 : Int) (s ln : ByteArray) (a0 a1 a2 a3 a4 a5 b0 b1 b2 b3 b4 b5 b6 b7 : ByteArray) (gd : List ByteArray) (n : Nat) (h0 : 0 ≤ a) (h1 : a ≤ (lenS ln : Int)) (hl : lenS ln ≤ 1000) (hm : tinyL [b0, b1, b2, b3, b4, b5, b6, b7] = true) (hk : 0 ≤ k) (hk2 : k < (n : Int)) (hn : n ≤ 1000) :
    ∀ x : Nat × List ByteArray, (x.1 ≤ 8 ∧ x.2.length = n) → SimC Tryd.prog 1 rd (.loop m5Lp) (m5T.at [.i ii, .s s, .i d, .i k, .s ln, .i a, .i c13, .i c14, .i c58, .i c59, .i c66, .i c67, .i 8, .i (x.1 : Int), .ss textsL, .s a0, .s a1, .s a2, .s a3, .s a4, .s a5, .ss gd, .ss x.2, .s b0, .s b1, .s b2, .s b3, .s b4, .s b5, .s b6, .s b7]) (.exit 8) (m4T.at [.i ii, .s s, .i d, .i k, .s ln, .i c13, .i c14, .i c58, .i c59, .i c66, .i c67, .ss textsL, .s a0, .s a1, .s a2, .s a3, .s a4, .s a5, .ss gd]) := by
  refine loop_of_rounds (C := orcSm sX plainL) (L := noLoops) (N := 100) (me := 31) (T := m5T) (T' := m4T) (orcSm_ok plainL_ok) mixed noLoops_ok (by kernel_rfl) (by kernel_rfl) (X := Nat × List ByteArray)
    (fun x => [.i ii, .s s, .i d, .i k, .s ln, .i a, .i c13, .i c14, .i c58, .i c59, .i c66, .i c67, .i 8, .i (x.1 : Int), .ss textsL, .s a0, .s a1, .s a2, .s a3, .s a4, .s a5, .ss gd, .ss x.2, .s b0, .s b1, .s b2, .s b3, .s b4, .s b5, .s b6, .s b7]) (fun x => x.1 ≤ 8 ∧ x.2.length = n) (fun x => 8 - x.1) (fun _ => (.exit 8, [.i ii, .s s, .i d, .i k, .s ln, .i c13, .i c14, .i c58, .i c59, .i c66, .i c67, .ss textsL, .s a0, .s a1, .s a2, .s a3, .s a4, .s a5, .ss gd])) ?_
  rintro ⟨i, ot⟩ ⟨hi, ho⟩
  dsimp only at hi ho ⊢
  rcases Nat.lt_or_ge i 8 with hlt | hge
  · have h := m5_round sX rd ii d k a c13 c14 c58 c59 c66 c67 s ln a0 a1 a2 a3 a4 a5 b0 b1 b2 b3 b4 b5 b6 b7 textsL gd ot i hlt
    obtain ⟨ot', e1, e2⟩ := m5A_is (ii := ii) (d := d) (k := k) (a := a) (c13 := c13) (c14 := c14) (c58 := c58) (c59 := c59) (c66 := c66) (c67 := c67) (c74 := 8) (i := (i : Int)) (s := s) (ln := ln) (a0 := a0) (a1 := a1) (a2 := a2) (a3 := a3) (a4 := a4) (a5 := a5) (b0 := b0) (b1 := b1) (b2 := b2) (b3 := b3) (b4 := b4) (b5 := b5) (b6 := b6) (b7 := b7) (gd := gd) (ot := ot) h0 h1 hl (c8_at hm i hlt) hk (by omega) (by omega)
    rw [e2] at h
    unfold m5R at h
    rw [wr64 (n := (i : Int) + 1) (by omega) (by omega)] at h
    exact ⟨_, _, _, h, codes0, .inl ⟨rfl, (i + 1, ot'), rfl, ⟨by simp only; omega, by simp only; omega⟩, by simp only; omega, rfl⟩⟩
  · have h := m5_end sX rd ii d k a c13 c14 c58 c59 c66 c67 s ln a0 a1 a2 a3 a4 a5 b0 b1 b2 b3 b4 b5 b6 b7 textsL gd ot
    obtain rfl : i = 8 := by omega
    exact ⟨_, _, _, h, codes0, .inr ⟨by simp, rfl⟩⟩
end Go.Proofs.YtnhilofmafjdpaaDoor
