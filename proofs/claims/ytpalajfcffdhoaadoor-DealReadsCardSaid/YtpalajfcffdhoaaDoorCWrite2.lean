/- Chapter 4: Write's loop: each suit's cards go into its part. -/
import Derived.Test.YtpalajfcffdhoaaDoorCW0
namespace Go.Proofs.YtpalajfcffdhoaaDoor.N4
open Go Go.Eng
/-- The ranks of a suit below n, the greatest first. -/
def suf (r s : Nat) : Nat → List UInt8
  | 0 => []
  | n + 1 => if r.testBit (13 * s + n) then rU.getD n 0 :: suf r s n else suf r s n
theorem suf_skip {r s k : Nat} : ∀ n : Nat, k ≤ n → (∀ i, k ≤ i → i < n → r.testBit (13 * s + i) = false) → suf r s n = suf r s k
  | 0, h, _ => by rw [show k = 0 by omega]
  | n + 1, h, hz => by
    by_cases e : k = n + 1
    · rw [e]
    · simp only [suf]
      rw [hz n (by omega) (by omega), if_neg (by simp)]
      exact suf_skip n (by omega) fun i h1 h2 => hz i h1 (by omega)
theorem suf_congr {r q s : Nat} : ∀ n : Nat, (∀ i, i < n → r.testBit (13 * s + i) = q.testBit (13 * s + i)) → suf r s n = suf q s n
  | 0, _ => rfl
  | n + 1, h => by
    simp only [suf]
    rw [h n (by omega), suf_congr n fun i hi => h i (by omega)]
theorem suf_len (r s : Nat) : ∀ n : Nat, (suf r s n).length ≤ n
  | 0 => by simp [suf]
  | n + 1 => by
    have := suf_len r s n
    simp only [suf]
    split <;> simp <;> omega
theorem suf_pop {r q t : Nat} (h1 : r.testBit t = true) (h2 : ∀ i, t + 1 ≤ i → r.testBit i = false) (hq : ∀ i, q.testBit i = (r.testBit i && !decide (t = i))) :
    suf r (t / 13) 13 = rU.getD (t % 13) 0 :: suf q (t / 13) 13 := by
  have ht : 13 * (t / 13) + t % 13 = t := Nat.div_add_mod t 13
  have hm : t % 13 < 13 := Nat.mod_lt _ (by decide)
  rw [suf_skip (k := t % 13 + 1) 13 (by omega) (fun i h3 _ => h2 _ (by omega)), suf_skip (r := q) (k := t % 13) 13 (by omega) (fun i h3 _ => by
    rw [hq]
    by_cases e : t = 13 * (t / 13) + i
    · rw [decide_eq_true e]; simp
    · rw [h2 _ (by omega)]; rfl)]
  simp only [suf]
  rw [ht, h1, if_pos rfl, suf_congr (r := r) (q := q) (t % 13) fun i hi => by rw [hq, decide_eq_false (by omega)]; simp]
theorem suf_other {r q t s : Nat} (hs : s ≠ t / 13) (hq : ∀ i, q.testBit i = (r.testBit i && !decide (t = i))) : suf r s 13 = suf q s 13 :=
  suf_congr 13 fun i hi => by rw [hq, decide_eq_false (by omega)]; simp
theorem ext_one {k : Nat} (hk : k < 13) : extS ⟨⟨[50, 51, 52, 53, 54, 55, 56, 57, 84, 74, 81, 75, 65]⟩⟩ k (k + 1) = ⟨⟨[rU.getD k 0]⟩⟩ := by
  match k, hk with
  | 0, _ => rfl
  | 1, _ => rfl
  | 2, _ => rfl
  | 3, _ => rfl
  | 4, _ => rfl
  | 5, _ => rfl
  | 6, _ => rfl
  | 7, _ => rfl
  | 8, _ => rfl
  | 9, _ => rfl
  | 10, _ => rfl
  | 11, _ => rfl
  | 12, _ => rfl
  | n + 13, h => omega
abbrev U4 := List UInt8 × List UInt8 × List UInt8 × List UInt8
def bA (l : List UInt8) : ByteArray := ⟨⟨l⟩⟩
def u4 (x : U4) : List ByteArray := [bA x.1, bA x.2.1, bA x.2.2.1, bA x.2.2.2]
def add4 (x : U4) (r : Nat) : U4 := (x.1 ++ suf r 3 13, x.2.1 ++ suf r 2 13, x.2.2.1 ++ suf r 1 13, x.2.2.2 ++ suf r 0 13)
def small4 (x : U4) : Prop := x.1.length ≤ 13 ∧ x.2.1.length ≤ 13 ∧ x.2.2.1.length ≤ 13 ∧ x.2.2.2.length ≤ 13
theorem wrCodes : codesOk [(wrA, wrA), (wrB, wrB)] := by intro x hx; simp at hx; rcases hx with rfl | rfl <;> rfl
theorem wr_step {r m : Nat} {x : U4} (hr : r < 4503599627370496) (h0 : r ≠ 0) (hx : small4 (add4 x r)) : ∃ r' x', r' < 4503599627370496 ∧ r' < r ∧ add4 x' r' = add4 x r ∧
    wrN r (wrC r) (wrI (wrC r)) (wrK (wrC r)) (u4 x) m (wrX (wrC r)) = some (.normal, [.i (r' : Int), .ss (u4 x'), .i (m : Int)], [(wrA, wrA), (wrB, wrB)]) := by
  obtain ⟨b1, b2, b3, b4⟩ := big_spec hr h0
  obtain ⟨r', e1, e2, e3⟩ := clear_nat (r := r) (t := Lib.bitLen r - 1) hr (by omega)
  have hL : lenI (r : Int) = ((Lib.bitLen r : Nat) : Int) := by unfold lenI; simp
  have hw : wrC (r : Int) = ((Lib.bitLen r - 1 : Nat) : Int) := by unfold wrC; rw [hL, wr64 (by omega) (by omega)]; omega
  have hb4 : ∀ i, (Lib.bitLen r - 1) + 1 ≤ i → r.testBit i = false := fun i hi => b4 i (by omega)
  have hpop := suf_pop (t := Lib.bitLen r - 1) b3 hb4 e3
  have hoth := fun s hs => suf_other (s := s) (t := Lib.bitLen r - 1) (r := r) (q := r') hs e3
  have hlt : r' < r := by
    have hle : r' ≤ r := Nat.le_of_testBit fun i hi => by rw [e3 i] at hi; simp at hi; exact hi.1
    have hne : r' ≠ r := fun e => by
      have := e3 (Lib.bitLen r - 1)
      rw [e, b3, decide_eq_true rfl] at this
      cases this
    omega
  have ht : Lib.bitLen r - 1 < 52 := by omega
  rw [hw]
  generalize Lib.bitLen r - 1 = t at *
  have w8 : wr .u8 (t : Int) = (t : Int) := wr8 (by omega) (by omega)
  have hs : suitI (t : Int) = ((t / 13 : Nat) : Int) := suit_nat ht
  have hk : rankI (t : Int) = ((t % 13 : Nat) : Int) := rank_nat ht
  have hm : t % 13 < 13 := Nat.mod_lt _ (by decide)
  have hI : wrI (t : Int) = ((3 - t / 13 : Nat) : Int) := by unfold wrI; rw [w8, hs, wr8 (by omega) (by omega)]; omega
  have hK : wrK (t : Int) = ((t % 13 : Nat) : Int) := by unfold wrK; rw [w8, hk]
  have hK1 : wr .u8 (((t % 13 : Nat) : Int) + 1) = ((t % 13 + 1 : Nat) : Int) := by rw [wr8 (by omega) (by omega)]; omega
  have hX : wrX (t : Int) = ⟨⟨[rU.getD (t % 13) 0]⟩⟩ := by
    unfold wrX
    rw [hK, hK1]
    exact ext_one hm
  rw [hI, hK, hX]
  obtain ⟨xa, xb, xc, xd⟩ := x
  have fin : ∀ (j : Nat) (v : List UInt8) (x' : U4), j = 3 - t / 13 → (u4 (xa, xb, xc, xd))[j]? = some (bA v) → v.length ≤ 13 → (u4 (xa, xb, xc, xd)).set j (bA (v ++ [rU.getD (t % 13) 0])) = u4 x' →
      wrN (r : Int) (t : Int) ((3 - t / 13 : Nat) : Int) ((t % 13 : Nat) : Int) (u4 (xa, xb, xc, xd)) (m : Int) ⟨⟨[rU.getD (t % 13) 0]⟩⟩ = some (.normal, [.i (r' : Int), .ss (u4 x'), .i (m : Int)], [(wrA, wrA), (wrB, wrB)]) := by
    intro j v x' hj hv hl hset
    subst hj
    unfold wrN
    rw [decide_eq_false (show ¬ (r : Int) = 0 by omega), decide_eq_true (show 0 ≤ (r : Int) ∧ (r : Int) ≤ 18446744073709551615 by omega), decide_eq_true (show 0 ≤ ((3 - t / 13 : Nat) : Int) ∧ ((3 - t / 13 : Nat) : Int) < 4 by omega),
      show (((3 - t / 13 : Nat) : Int)).toNat = 3 - t / 13 by omega, hv, e1, hK1, decide_eq_true (show 0 ≤ ((t % 13 : Nat) : Int) ∧ ((t % 13 : Nat) : Int) ≤ ((t % 13 + 1 : Nat) : Int) ∧ ((t % 13 + 1 : Nat) : Int) ≤ 13 by omega),
      decide_eq_true (show 3 - t / 13 < (u4 (xa, xb, xc, xd)).length by simp [u4]; omega), decide_eq_false (show ¬ (t : Int) < 0 by omega)]
    have hl2 : (bA v).data.toList.length + (⟨⟨[rU.getD (t % 13) 0]⟩⟩ : ByteArray).data.toList.length ≤ 9223372036854775807 := by simp [bA]; omega
    dsimp only [Bool.not_false, cond_true, cond_false]
    rw [decide_eq_true hl2, cond_true, show catS (bA v) ⟨⟨[rU.getD (t % 13) 0]⟩⟩ = bA (v ++ [rU.getD (t % 13) 0]) from rfl, hset]
    rfl
  simp only [small4, add4, List.length_append] at hx
  have h4 : t / 13 = 0 ∨ t / 13 = 1 ∨ t / 13 = 2 ∨ t / 13 = 3 := by omega
  have o3 := hoth 3; have o2 := hoth 2; have o1 := hoth 1; have o0 := hoth 0
  rcases h4 with e | e | e | e <;> rw [e] at hpop o0 o1 o2 o3
  · refine ⟨r', (xa, xb, xc, xd ++ [rU.getD (t % 13) 0]), e2, hlt, ?_, fin 3 xd _ (by omega) rfl (by omega) rfl⟩
    simp only [add4]; rw [hpop, o1 (by decide), o2 (by decide), o3 (by decide)]; simp
  · refine ⟨r', (xa, xb, xc ++ [rU.getD (t % 13) 0], xd), e2, hlt, ?_, fin 2 xc _ (by omega) rfl (by omega) rfl⟩
    simp only [add4]; rw [hpop, o0 (by decide), o2 (by decide), o3 (by decide)]; simp
  · refine ⟨r', (xa, xb ++ [rU.getD (t % 13) 0], xc, xd), e2, hlt, ?_, fin 1 xb _ (by omega) rfl (by omega) rfl⟩
    simp only [add4]; rw [hpop, o0 (by decide), o1 (by decide), o3 (by decide)]; simp
  · refine ⟨r', (xa ++ [rU.getD (t % 13) 0], xb, xc, xd), e2, hlt, ?_, fin 0 xa _ (by omega) rfl (by omega) rfl⟩
    simp only [add4]; rw [hpop, o0 (by decide), o1 (by decide), o2 (by decide)]; simp
theorem suf_zero (s : Nat) : ∀ n, suf 0 s n = []
  | 0 => rfl
  | n + 1 => by simp [suf, suf_zero s n]
theorem wr_loop (rd : Option Nat) (m : Nat) : ∀ y : Nat × U4, (y.1 < 4503599627370496 ∧ small4 (add4 y.2 y.1)) →
    SimC Tryd.prog 4 rd (.loop wrLp) (wrT.at [.i (y.1 : Int), .ss (u4 y.2), .i (m : Int)]) (.exit 0) (wrT.at [.i 0, .ss (u4 (add4 y.2 y.1)), .i (m : Int)]) := by
  refine loop_of_rounds (C := orcO) (L := noLoops) (N := 100) (me := 51) (T := wrT) (T' := wrT) orcO_ok mixed noLoops_ok (by kernel_rfl) (by kernel_rfl) (X := Nat × U4)
    (fun y => [.i (y.1 : Int), .ss (u4 y.2), .i (m : Int)]) (fun y => y.1 < 4503599627370496 ∧ small4 (add4 y.2 y.1)) (fun y => y.1) (fun y => (.exit 0, [.i 0, .ss (u4 (add4 y.2 y.1)), .i (m : Int)])) ?_
  rintro ⟨r, x⟩ ⟨hr, hl⟩
  dsimp only at hr hl ⊢
  have h := wr_round rd r m (u4 x)
  by_cases h0 : r = 0
  · subst h0
    refine ⟨_, _, _, h.trans (show wrN _ _ _ _ _ _ _ = some (.exit 0, [.i ((0 : Nat) : Int), .ss (u4 x), .i (m : Int)], [(wrA, wrA), (wrB, wrB)]) from rfl), wrCodes, .inr ⟨by simp, ?_⟩⟩
    simp [add4, suf_zero]
  · obtain ⟨r', x', e1, e2, e3, e4⟩ := wr_step (m := m) hr h0 hl
    exact ⟨_, _, _, h.trans e4, wrCodes, .inl ⟨rfl, (r', x'), rfl, ⟨e1, by dsimp only; rw [e3]; exact hl⟩, e2, by dsimp only; rw [e3]⟩⟩
end Go.Proofs.YtpalajfcffdhoaaDoor.N4
